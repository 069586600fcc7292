/-
  The contracts of the functions, read from the code by a program (ext.py): each function has its plain twin as its contract.
-/
import Derived.Test.YteigfkncoiiaiaaGreatDoorM5
set_option linter.all false
namespace Go.Proofs.YteigfkncoiiaiaaGreatDoor.Sym
open Go.RowKit
set_option maxRecDepth 100000
set_option linter.unusedVariables false
set_option maxHeartbeats 4000000
theorem sp_minimize_Min (m_:T_api_Mealy) (r:T_api_Mealy×Int) (h:Ok (.agg (c_api_Mealy m_))→minimize_Min m_=some r):Sp Tryz.prog 55 [.im (.agg (c_api_Mealy m_))] (.tup [.agg (c_api_Mealy r.1),nI r.2]):=by
 refine sp_of rfl [72,700001] rfl rfl rfl (Nat.le_of_ble_eq_true rfl) rfl fun hk=>?_
 replace h:=h hk.1
 have z1:lZ m_.Next:=ok_len (Ok.agg_at hk.1 2 rfl)
 have z2:lZ m_.Out:=ok_len (Ok.agg_at hk.1 3 rfl)
 unfold minimize_Min at h
 conv=>whnf
 obtain ⟨c51,hc51,h⟩:=bind_some h
 refine ⟨_,(sp_mealy_Trim m_ c51 (fun _=>hc51)),?_⟩
 conv=>whnf
 refine Side.mk rfl ?_
 conv=>whnf
 refine Both.mk ?_ ?_<;>intro b52
 obtain ⟨h,b52d⟩:=ctd b52 h
 conv=>whnf
 refine Side.mk rfl ?_
 conv=>whnf
 cases h
 conv=>whnf
 refine Side.mk ⟨rfl,trivial⟩ ?_
 conv=>whnf
 exact ⟨rfl,rfl⟩
 obtain ⟨h,b52d⟩:=cfd b52 h
 conv=>whnf
 refine Side.mk rfl ?_
 conv=>whnf
 obtain ⟨c53,hc53,h⟩:=bind_some h
 refine ⟨_,(sp_minimize_Classes c51.1 c53 (fun _=>hc53)),?_⟩
 conv=>whnf
 refine Both.mk ?_ ?_<;>intro b54
 obtain ⟨h,b54d⟩:=ctd b54 h
 conv=>whnf
 refine Side.mk rfl ?_
 conv=>whnf
 cases h
 conv=>whnf
 refine Side.mk ⟨rfl,trivial⟩ ?_
 conv=>whnf
 exact ⟨rfl,rfl⟩
 obtain ⟨h,b54d⟩:=cfd b54 h
 conv=>whnf
 refine Side.mk rfl ?_
 conv=>whnf
 refine Side.mk rfl ?_
 conv=>whnf
 refine Side.mk rfl ?_
 conv=>whnf
 refine Nf.mk (List.length c53.1) len_map ?_
 conv=>whnf
 obtain ⟨⟨y418,y419⟩,hc,hk55⟩:=bind_some h
 clear h
 have h:=hc
 clear hc
 refine Cut.mk (mkSt [(2,.own 84 1 0),(7,.own 85 1 0)] [(84,.box 37 4),(85,.box 37 4),(86,.row 25 1 (List.map (cL cI) y418)),(87,.row 25 1 (List.map (cL cI) y419))] [(84,0,.im (nI 0)),(84,1,.im (nI 0)),(84,2,.im (.val (.slice none 0 0))),(84,3,.im (.val (.slice none 0 0))),(85,0,.im (nI c51.1.Inputs)),(85,1,.im (nI 0)),(85,2,.osl 86 1),(85,3,.osl 87 1)]) (lZ y418∧lZ y419∧True) ((Holds.kdl 86 rfl).and ((Holds.kdl 87 rfl).and (hT))) ?_ (fun hp=>?_)
 conv=>whnf
 refine Loops.iter (fun (s:List (List Int)×List (List Int)×Nat)=>minimize_Min.s32 c51 c53 s.1 s.2.1 s.2.2) (fun (y527,y528,y529)=>mkSt [(2,.own 84 1 0),(4,.own 85 1 0),(6,.im (nL cI c53.1)),(7,.own 86 1 0),(34,.im (nL cI c53.1)),(35,.im (nI (↑(List.length c53.1):Int))),(36,.im (nI (↑y529:Int)))] [(84,.box 37 4),(85,.box 37 4),(86,.box 37 4),(87,.row 25 1 (List.map (cL cI) y527)),(88,.row 25 1 (List.map (cL cI) y528))] [(84,0,.im (nI 0)),(84,1,.im (nI 0)),(84,2,.im (.val (.slice none 0 0))),(84,3,.im (.val (.slice none 0 0))),(85,0,.im (nI c51.1.Inputs)),(85,1,.im (nI c51.1.Start)),(85,2,.im (nL (cL cI) c51.1.Next)),(85,3,.im (nL (cL cI) c51.1.Out)),(86,0,.im (nI c51.1.Inputs)),(86,1,.im (nI 0)),(86,2,.osl 87 1),(86,3,.osl 88 1)]) (fun (y527,y528,y529)=>lZ c53.1∧lZ c51.1.Next∧lZ c51.1.Out∧lZ y527∧lZ y528∧True) h (Ent.mk [(84,some 2),(85,some 4),(86,some 7),(87,none),(88,none)] rfl ⟨⟨.own 2 _ 0,rfl,.own rfl rfl rfl⟩,⟨.own 4 _ 0,rfl,.own rfl rfl rfl⟩,eI rfl rfl,⟨.own 7 _ 0,rfl,.own rfl rfl rfl⟩,eI rfl rfl,eI rfl rfl,eI rfl rfl,trivial⟩ ⟨.inl ⟨2,rfl,rfl,trivial⟩,.inl ⟨4,rfl,rfl,trivial⟩,.inl ⟨7,rfl,rfl,trivial⟩,.inr ⟨rfl,rfl,.inl ⟨_,_,rfl,by decide⟩⟩,.inr ⟨rfl,rfl,.inl ⟨_,_,rfl,by decide⟩⟩,trivial⟩ ⟨⟨2,.im _,rfl,rfl,.im (Sub.rfl' rfl)⟩,⟨2,.im _,rfl,rfl,.im (Sub.rfl' rfl)⟩,⟨2,.im (.val (.slice none 0 0)),rfl,rfl,.im (Sub.rfl' rfl)⟩,⟨2,.im (.val (.slice none 0 0)),rfl,rfl,.im (Sub.rfl' rfl)⟩,⟨4,.im _,rfl,rfl,.im (Sub.rfl' rfl)⟩,⟨4,.im _,rfl,rfl,.im (Sub.rfl' rfl)⟩,⟨4,.im _,rfl,rfl,.im (Sub.rfl' rfl)⟩,⟨4,.im _,rfl,rfl,.im (Sub.rfl' rfl)⟩,⟨7,.im _,rfl,rfl,.im (Sub.rfl' rfl)⟩,⟨7,.im _,rfl,rfl,.im (Sub.rfl' rfl)⟩,⟨7,.im (.val (.slice none 0 0)),rfl,rfl,.made rfl rfl⟩,⟨7,.im (.val (.slice none 0 0)),rfl,rfl,.made rfl rfl⟩,trivial⟩) (by rintro ⟨y527,y528,y529⟩;exact ((Holds.avl 6 rfl).and ((Holds.cel 85 2 rfl (by decide) rfl).and ((Holds.cel 85 3 rfl (by decide) rfl).and ((Holds.kdl 87 rfl).and ((Holds.kdl 88 rfl).and (hT))))))) ?_
 clear h
 rintro k ⟨y527,y528,y529⟩ o hp h ho653
 replace h:minimize_Min.s32 c51 c53 y527 y528 y529=some o:=h
 unfold minimize_Min.s32 at h
 obtain ⟨z777,z778,z779,z780,z781,_⟩:=hp
 conv=>whnf
 refine Both.mk ?_ ?_<;>intro b654
 obtain ⟨h,b654d⟩:=ctd b654 h
 conv=>whnf
 obtain ⟨⟨y713,y714⟩,hc,hk655⟩:=bind_some h
 clear h
 have h:=hc
 clear hc
 refine Cut.mk (mkSt [(2,.own 84 1 0),(4,.own 85 1 0),(6,.im (nL cI c53.1)),(7,.own 86 1 0),(34,.im (nL cI c53.1)),(35,.im (nI (↑(List.length c53.1):Int))),(36,.im (nI (↑y529:Int)))] [(84,.box 37 4),(85,.box 37 4),(86,.box 37 4),(87,.row 25 1 (List.map (cL cI) y713)),(88,.row 25 1 (List.map (cL cI) y714))] [(84,0,.im (nI 0)),(84,1,.im (nI 0)),(84,2,.im (.val (.slice none 0 0))),(84,3,.im (.val (.slice none 0 0))),(85,0,.im (nI c51.1.Inputs)),(85,1,.im (nI c51.1.Start)),(85,2,.im (nL (cL cI) c51.1.Next)),(85,3,.im (nL (cL cI) c51.1.Out)),(86,0,.im (nI c51.1.Inputs)),(86,1,.im (nI 0)),(86,2,.osl 87 1),(86,3,.osl 88 1)]) (lZ c53.1∧lZ c51.1.Next∧lZ c51.1.Out∧lZ y713∧lZ y714∧True) ((Holds.avl 6 rfl).and ((Holds.cel 85 2 rfl (by decide) rfl).and ((Holds.cel 85 3 rfl (by decide) rfl).and ((Holds.kdl 87 rfl).and ((Holds.kdl 88 rfl).and (hT)))))) ?_ (fun hp=>?_)
 conv=>whnf
 obtain ⟨e715,he715,h⟩:=idxn_some h
 refine ⟨_,⟨(by omega),map_at he715,rfl⟩,?_⟩
 conv=>whnf
 refine Side.mk rfl ?_
 conv=>whnf
 refine Side.mk rfl ?_
 conv=>whnf
 refine Side.mk rfl ?_
 conv=>whnf
 refine Nf.mk (List.length y527) len_map ?_
 conv=>whnf
 refine Both.mk ?_ ?_<;>intro b716
 obtain ⟨h,b716d⟩:=ctd b716 h
 conv=>whnf
 cases h
 exact Join.mk (eA [(84,some 84),(85,some 85),(86,some 86),(87,some 87),(88,some 88)])
 obtain ⟨h,b716d⟩:=cfd b716 h
 conv=>whnf
 refine Side.mk rfl ?_
 conv=>whnf
 refine Side.mk rfl ?_
 conv=>whnf
 obtain ⟨e717,he717,h⟩:=idxn_some h
 refine ⟨_,⟨(by omega),map_at he717,rfl⟩,?_⟩
 conv=>whnf
 refine Nf.mk (List.length e717) len_map ?_
 conv=>whnf
 obtain ⟨y740,hc,hk718⟩:=bind_some h
 clear h
 have h:=hc
 clear hc
 refine Cut.mk (mkSt [(2,.own 84 1 0),(4,.own 85 1 0),(6,.im (nL cI c53.1)),(7,.own 86 1 0),(8,.im (nI (↑y529:Int))),(10,.osl 89 1),(34,.im (nL cI c53.1)),(35,.im (nI (↑(List.length c53.1):Int))),(36,.im (nI (↑y529:Int)))] [(84,.box 37 4),(85,.box 37 4),(86,.box 37 4),(87,.row 25 1 (List.map (cL cI) y527)),(88,.row 25 1 (List.map (cL cI) y528)),(89,.row 3 1 (List.map cI y740))] [(84,0,.im (nI 0)),(84,1,.im (nI 0)),(84,2,.im (.val (.slice none 0 0))),(84,3,.im (.val (.slice none 0 0))),(85,0,.im (nI c51.1.Inputs)),(85,1,.im (nI c51.1.Start)),(85,2,.im (nL (cL cI) c51.1.Next)),(85,3,.im (nL (cL cI) c51.1.Out)),(86,0,.im (nI c51.1.Inputs)),(86,1,.im (nI 0)),(86,2,.osl 87 1),(86,3,.osl 88 1)]) (lZ c53.1∧lZ c51.1.Next∧lZ c51.1.Out∧lZ y527∧lZ y528∧lZ y740∧True) ((Holds.avl 6 rfl).and ((Holds.cel 85 2 rfl (by decide) rfl).and ((Holds.cel 85 3 rfl (by decide) rfl).and ((Holds.kdl 87 rfl).and ((Holds.kdl 88 rfl).and ((Holds.kdl 89 rfl).and (hT))))))) ?_ (fun hp=>?_)
 conv=>whnf
 refine Loops.iter (fun (s:List Int×Nat)=>minimize_Min.s30 c53 e717 s.1 s.2) (fun (y744,y745)=>mkSt [(2,.own 84 1 0),(4,.own 85 1 0),(6,.im (nL cI c53.1)),(7,.own 86 1 0),(8,.im (nI (↑y529:Int))),(10,.osl 89 1),(34,.im (nL cI c53.1)),(35,.im (nI (↑(List.length c53.1):Int))),(36,.im (nI (↑y529:Int))),(50,.im (nL cI e717)),(51,.im (nI (↑(List.length e717):Int))),(52,.im (nI (↑y745:Int)))] [(84,.box 37 4),(85,.box 37 4),(86,.box 37 4),(87,.row 25 1 (List.map (cL cI) y527)),(88,.row 25 1 (List.map (cL cI) y528)),(89,.row 3 1 (List.map cI y744))] [(84,0,.im (nI 0)),(84,1,.im (nI 0)),(84,2,.im (.val (.slice none 0 0))),(84,3,.im (.val (.slice none 0 0))),(85,0,.im (nI c51.1.Inputs)),(85,1,.im (nI c51.1.Start)),(85,2,.im (nL (cL cI) c51.1.Next)),(85,3,.im (nL (cL cI) c51.1.Out)),(86,0,.im (nI c51.1.Inputs)),(86,1,.im (nI 0)),(86,2,.osl 87 1),(86,3,.osl 88 1)]) (fun (y744,y745)=>lZ c53.1∧lZ e717∧lZ c51.1.Next∧lZ c51.1.Out∧lZ y527∧lZ y528∧lZ y744∧True) h (eA [(84,some 84),(85,some 85),(86,some 86),(87,some 87),(88,some 88),(89,none)]) (by rintro ⟨y744,y745⟩;exact ((Holds.avl 6 rfl).and ((Holds.avl 50 rfl).and ((Holds.cel 85 2 rfl (by decide) rfl).and ((Holds.cel 85 3 rfl (by decide) rfl).and ((Holds.kdl 87 rfl).and ((Holds.kdl 88 rfl).and ((Holds.kdl 89 rfl).and (hT))))))))) ?_
 clear h
 rintro k ⟨y744,y745⟩ o hp h ho750
 replace h:minimize_Min.s30 c53 e717 y744 y745=some o:=h
 unfold minimize_Min.s30 at h
 obtain ⟨z755,z756,z757,z758,z759,z760,z761,_⟩:=hp
 conv=>whnf
 refine Both.mk ?_ ?_<;>intro b751
 obtain ⟨h,b751d⟩:=ctd b751 h
 conv=>whnf
 obtain ⟨e752,he752,h⟩:=idxn_some h
 refine ⟨_,⟨(by omega),map_at he752,rfl⟩,?_⟩
 conv=>whnf
 obtain ⟨e753,he753z,he753,h⟩:=idx_some h
 refine ⟨_,⟨he753z,map_at he753,rfl⟩,?_⟩
 conv=>whnf
 obtain ⟨c754,h⟩:=chk_some h
 refine Side.mk ⟨rfl,map_len (l:=[e753]) (c:=cI) fun _=>rfl,show capOk _ 8 by simpa only [List.length_map,List.length_cons,List.length_nil,Nat.zero_add] using c754⟩ ?_
 conv=>whnf
 refine Nf.mk (List.map cI (y744++[e753])) (app_map (l:=y744) (m:=[e753]) (c:=cI)) ?_
 conv=>whnf
 refine Arith.mk (by show inR _;unfold inR;omega) ?_
 conv=>whnf
 cases h
 exact Nxt.mk _ ho750 (eA [(84,some 84),(85,some 85),(86,some 86),(87,some 87),(88,some 88),(89,some 89)])
 obtain ⟨h,b751d⟩:=cfd b751 h
 conv=>whnf
 cases h
 have ho750:_=_:=ho750
 cases ho750
 exact Join.mk (eA [(84,some 84),(85,some 85),(86,some 86),(87,some 87),(88,some 88),(89,some 89)])
 replace h:=hk718
 obtain ⟨z762,z763,z764,z765,z766,z767,_⟩:=hp
 conv=>whnf
 refine Side.mk rfl ?_
 conv=>whnf
 refine Side.mk rfl ?_
 conv=>whnf
 refine Side.mk ⟨rfl,trivial⟩ ?_
 conv=>whnf
 obtain ⟨c768,h⟩:=chk_some h
 refine Side.mk ⟨rfl,map_len (l:=[y740]) (c:=cL cI) fun _=>rfl,show capOk _ 24 by simpa only [List.length_map,List.length_cons,List.length_nil,Nat.zero_add] using c768⟩ ?_
 conv=>whnf
 refine Nf.mk (List.map (cL cI) (y527++[y740])) (app_map (l:=y527) (m:=[y740]) (c:=cL cI)) ?_
 conv=>whnf
 refine Side.mk rfl ?_
 conv=>whnf
 refine Side.mk rfl ?_
 conv=>whnf
 refine Side.mk rfl ?_
 conv=>whnf
 refine Side.mk rfl ?_
 conv=>whnf
 refine Side.mk rfl ?_
 conv=>whnf
 refine Side.mk rfl ?_
 conv=>whnf
 obtain ⟨e769,he769,h⟩:=idxn_some h
 refine ⟨_,⟨(by omega),map_at he769,rfl⟩,?_⟩
 conv=>whnf
 obtain ⟨c770,h⟩:=chk_some h
 refine Side.mk ⟨rfl,map_len (l:=e769) (c:=cI) fun _=>rfl,show capOk _ 8 by simpa only [List.length_map,List.length_cons,List.length_nil,Nat.zero_add] using c770⟩ ?_
 conv=>whnf
 refine Nf.mk (List.map cI ([]++e769)) (app_map (l:=[]) (m:=e769) (c:=cI)) ?_
 conv=>whnf
 refine Side.mk ⟨rfl,trivial⟩ ?_
 conv=>whnf
 obtain ⟨c771,h⟩:=chk_some h
 refine Side.mk ⟨rfl,map_len (l:=[([]++e769)]) (c:=cL cI) fun _=>rfl,show capOk _ 24 by simpa only [List.length_map,List.length_cons,List.length_nil,Nat.zero_add] using c771⟩ ?_
 conv=>whnf
 refine Nf.mk (List.map (cL cI) (y528++[([]++e769)])) (app_map (l:=y528) (m:=[([]++e769)]) (c:=cL cI)) ?_
 conv=>whnf
 refine Side.mk rfl ?_
 conv=>whnf
 refine Side.mk rfl ?_
 conv=>whnf
 cases h
 exact Join.mk (eA [(84,some 84),(85,some 85),(86,some 86),(87,some 87),(88,some 88)])
 replace h:minimize_Min.k31 y529 y713 y714=some _:=hk655
 unfold minimize_Min.k31 at h
 obtain ⟨z772,z773,z774,z775,z776,_⟩:=hp
 conv=>whnf
 refine Arith.mk (by show inR _;unfold inR;omega) ?_
 conv=>whnf
 cases h
 exact Nxt.mk _ ho653 (eA [(84,some 84),(85,some 85),(86,some 86),(87,some 87),(88,some 88)])
 obtain ⟨h,b654d⟩:=cfd b654 h
 conv=>whnf
 cases h
 have ho653:_=_:=ho653
 cases ho653
 exact Join.mk (eA [(84,some 84),(85,some 86),(86,some 87),(87,some 88)])
 replace h:minimize_Min.k33 c51 y418 y419=some _:=hk55
 unfold minimize_Min.k33 at h
 obtain ⟨z782,z783,_⟩:=hp
 conv=>whnf
 refine Side.mk rfl ?_
 conv=>whnf
 refine Side.mk rfl ?_
 conv=>whnf
 cases h
 conv=>whnf
 refine Side.mk ⟨rfl,trivial⟩ ?_
 conv=>whnf
 exact Side.mk ⟨rfl,rfl,trivial⟩ ⟨rfl,rfl⟩
theorem sp_cover_places (m_:T_api_Mealy) (from_:Int) (r:List T_cover_place) (h:Ok (.agg (c_api_Mealy m_))→Ok (nI from_)→cover_places m_ from_=some r):Sp Tryz.prog 117 [.im (.agg (c_api_Mealy m_)),.im (nI from_)] (.row 147 2 (List.map c_cover_place r)):=by
 refine sp_of rfl [19,700002] rfl rfl rfl (Nat.le_of_ble_eq_true rfl) rfl fun hk=>?_
 replace h:=h hk.1 hk.2.1
 have z1:lZ m_.Next:=ok_len (Ok.agg_at hk.1 2 rfl)
 have z2:lZ m_.Out:=ok_len (Ok.agg_at hk.1 3 rfl)
 unfold cover_places at h
 conv=>whnf
 refine Nf.mk (List.length m_.Next) len_map ?_
 conv=>whnf
 obtain ⟨c51,h⟩:=chk_some h
 refine Side.mk c51 ?_
 conv=>whnf
 refine Nf.mk (List.map cB (List.replicate (List.length m_.Next) false)) (rep_map (c:=cB) (z:=false) (n:=(List.length m_.Next)) rfl rfl) ?_
 conv=>whnf
 obtain ⟨e52,he52z,he52,h⟩:=idx_some h
 refine Side.mk ⟨he52z,rfl,map_lt he52⟩ ?_
 conv=>whnf
 refine Side.mk ⟨rfl,trivial⟩ ?_
 conv=>whnf
 refine ⟨_,map_at he52,?_⟩
 conv=>whnf
 refine Nf.mk (List.map cB (List.set (List.replicate (List.length m_.Next) false) from_.toNat true)) (set_map rfl) ?_
 conv=>whnf
 obtain ⟨y270,hc,hk53⟩:=bind_some h
 clear h
 have h:=hc
 clear hc
 refine Cut.mk (mkSt [(6,.osl 65 1)] [(65,.row 147 2 (List.map c_cover_place y270))] []) (lZ y270∧True) ((Holds.kdl 65 rfl).and (hT)) ?_ (fun hp=>?_)
 conv=>whnf
 refine Loops.iter (fun (s:List Bool×List T_cover_place×Nat)=>cover_places.s20 m_ s.1 s.2.1 s.2.2) (fun (y341,y342,i343)=>mkSt [(2,.im (.ref (c_api_Mealy m_))),(5,.osl 65 1),(6,.osl 66 1),(7,.im (nI (↑i343:Int)))] [(65,.row 4 1 (List.map cB y341)),(66,.row 147 2 (List.map c_cover_place y342))] []) (fun (y341,y342,i343)=>lZ y341∧lZ y342∧True) h (eA [(65,some 13),(66,some 19)]) (by rintro ⟨y341,y342,i343⟩;exact ((Holds.kdl 65 rfl).and ((Holds.kdl 66 rfl).and (hT)))) ?_
 clear h
 rintro k ⟨y341,y342,i343⟩ o hp h ho414
 replace h:cover_places.s20 m_ y341 y342 i343=some o:=h
 unfold cover_places.s20 at h
 obtain ⟨z485,z486,_⟩:=hp
 conv=>whnf
 refine Side.mk rfl ?_
 conv=>whnf
 refine Nf.mk (List.length y342) len_map ?_
 conv=>whnf
 refine Both.mk ?_ ?_<;>intro b415
 obtain ⟨h,b415d⟩:=ctd b415 h
 conv=>whnf
 obtain ⟨e416,he416,h⟩:=idxn_some h
 refine Side.mk ⟨(by omega),rfl,map_lt he416⟩ ?_
 conv=>whnf
 refine Side.mk rfl ?_
 conv=>whnf
 refine ⟨_,_,⟨rfl,map_at he416,rfl,rfl⟩,?_⟩
 conv=>whnf
 obtain ⟨e417,he417z,he417,h⟩:=idx_some h
 refine ⟨_,⟨he417z,map_at he417,rfl⟩,?_⟩
 conv=>whnf
 refine Nf.mk (List.length e417) len_map ?_
 conv=>whnf
 obtain ⟨⟨y450,y451⟩,hc,hk418⟩:=bind_some h
 clear h
 have h:=hc
 clear hc
 refine Cut.mk (mkSt [(2,.im (.ref (c_api_Mealy m_))),(5,.osl 65 1),(6,.osl 66 1),(7,.im (nI (↑i343:Int)))] [(65,.row 4 1 (List.map cB y450)),(66,.row 147 2 (List.map c_cover_place y451))] []) (lZ y450∧lZ y451∧True) ((Holds.kdl 65 rfl).and ((Holds.kdl 66 rfl).and (hT))) ?_ (fun hp=>?_)
 conv=>whnf
 refine Loops.iter (fun (s:List Bool×List T_cover_place×Nat)=>cover_places.s18 i343 e417 s.1 s.2.1 s.2.2) (fun (y460,y461,y462)=>mkSt [(2,.im (.ref (c_api_Mealy m_))),(5,.osl 65 1),(6,.osl 66 1),(7,.im (nI (↑i343:Int))),(34,.im (nL cI e417)),(35,.im (nI (↑(List.length e417):Int))),(36,.im (nI (↑y462:Int)))] [(65,.row 4 1 (List.map cB y460)),(66,.row 147 2 (List.map c_cover_place y461))] []) (fun (y460,y461,y462)=>lZ e417∧lZ y460∧lZ y461∧True) h (eA [(65,some 65),(66,some 66)]) (by rintro ⟨y460,y461,y462⟩;exact ((Holds.avl 34 rfl).and ((Holds.kdl 65 rfl).and ((Holds.kdl 66 rfl).and (hT))))) ?_
 clear h
 rintro k ⟨y460,y461,y462⟩ o hp h ho471
 replace h:cover_places.s18 i343 e417 y460 y461 y462=some o:=h
 unfold cover_places.s18 at h
 obtain ⟨z480,z481,z482,_⟩:=hp
 conv=>whnf
 refine Both.mk ?_ ?_<;>intro b472
 obtain ⟨h,b472d⟩:=ctd b472 h
 conv=>whnf
 obtain ⟨e473,he473,h⟩:=idxn_some h
 refine ⟨_,⟨(by omega),map_at he473,rfl⟩,?_⟩
 conv=>whnf
 obtain ⟨e474,he474z,he474,h⟩:=idx_some h
 refine Side.mk ⟨he474z,rfl,map_lt he474⟩ ?_
 conv=>whnf
 refine ⟨_,_,⟨rfl,map_at he474,rfl,rfl⟩,?_⟩
 conv=>whnf
 refine Both.mk ?_ ?_<;>intro b475
 replace h:=cond_t b475 h
 conv=>whnf
 obtain ⟨e476,he476z,he476,h⟩:=idx_some h
 refine Side.mk ⟨he476z,rfl,map_lt he476⟩ ?_
 conv=>whnf
 refine Side.mk ⟨rfl,trivial⟩ ?_
 conv=>whnf
 refine ⟨_,map_at he476,?_⟩
 conv=>whnf
 refine Nf.mk (List.map cB (List.set y460 e473.toNat true)) (set_map rfl) ?_
 conv=>whnf
 obtain ⟨e477,he477,h⟩:=idxn_some h
 refine Side.mk ⟨(by omega),rfl,map_lt he477⟩ ?_
 conv=>whnf
 refine Side.mk rfl ?_
 conv=>whnf
 refine ⟨_,_,⟨rfl,map_at he477,rfl,rfl⟩,?_⟩
 conv=>whnf
 obtain ⟨c478,hc478,h⟩:=bind_some h
 refine ⟨_,(sp_word_Join [e477.word,[(↑y462:Int)]] c478 (fun _=>hc478)),?_⟩
 conv=>whnf
 obtain ⟨c479,h⟩:=chk_some h
 refine Side.mk ⟨rfl,map_len (l:=[(⟨e473,c478⟩:T_cover_place)]) (c:=c_cover_place) fun _=>rfl,show capOk _ 32 by simpa only [List.length_map,List.length_cons,List.length_nil,Nat.zero_add] using c479⟩ ?_
 conv=>whnf
 refine Nf.mk (List.map c_cover_place (y461++[(⟨e473,c478⟩:T_cover_place)])) (app_map (l:=y461) (m:=[(⟨e473,c478⟩:T_cover_place)]) (c:=c_cover_place)) ?_
 conv=>whnf
 refine Arith.mk (by show inR _;unfold inR;omega) ?_
 conv=>whnf
 cases h
 exact Nxt.mk _ ho471 (eA [(65,some 65),(66,some 66)])
 replace h:=cond_f b475 h
 conv=>whnf
 refine Arith.mk (by show inR _;unfold inR;omega) ?_
 conv=>whnf
 cases h
 exact Nxt.mk _ ho471 (eA [(65,some 65),(66,some 66)])
 obtain ⟨h,b472d⟩:=cfd b472 h
 conv=>whnf
 cases h
 have ho471:_=_:=ho471
 cases ho471
 exact Join.mk (eA [(65,some 65),(66,some 66)])
 replace h:cover_places.k19 i343 y450 y451=some _:=hk418
 unfold cover_places.k19 at h
 obtain ⟨z483,z484,_⟩:=hp
 conv=>whnf
 refine Arith.mk (by show inR _;unfold inR;omega) ?_
 conv=>whnf
 cases h
 exact Nxt.mk _ ho414 (eA [(65,some 65),(66,some 66)])
 obtain ⟨h,b415d⟩:=cfd b415 h
 conv=>whnf
 cases h
 have ho414:_=_:=ho414
 cases ho414
 exact Join.mk (eA [(65,some 66)])
 replace h:=hk53
 obtain ⟨z487,_⟩:=hp
 conv=>whnf
 cases h
 conv=>whnf
 exact Side.mk ⟨rfl,trivial⟩ ⟨rfl,rfl⟩
theorem sp_cover_Access (m_:T_api_Mealy) (r:List Int×List (List Int)×Int) (h:Ok (.agg (c_api_Mealy m_))→cover_Access m_=some r):Sp Tryz.prog 87 [.im (.agg (c_api_Mealy m_))] (.tup [nL cI r.1,nL (cL cI) r.2.1,nI r.2.2]):=by
 refine sp_of rfl [700001] rfl rfl rfl (Nat.le_of_ble_eq_true rfl) rfl fun hk=>?_
 replace h:=h hk.1
 have z1:lZ m_.Next:=ok_len (Ok.agg_at hk.1 2 rfl)
 have z2:lZ m_.Out:=ok_len (Ok.agg_at hk.1 3 rfl)
 unfold cover_Access at h
 conv=>whnf
 obtain ⟨c51,hc51,h⟩:=bind_some h
 refine ⟨_,(sp_mealy_Valid m_ c51 (fun _=>hc51)),?_⟩
 conv=>whnf
 refine Both.mk ?_ ?_<;>intro b52
 obtain ⟨h,b52d⟩:=ctd b52 h
 conv=>whnf
 cases h
 conv=>whnf
 exact ⟨rfl,rfl⟩
 obtain ⟨h,b52d⟩:=cfd b52 h
 conv=>whnf
 obtain ⟨c53,hc53,h⟩:=bind_some h
 refine ⟨_,(sp_cover_places m_ m_.Start c53 (fun _ _=>hc53)).im,?_⟩
 conv=>whnf
 refine Nf.mk (List.length c53) len_map ?_
 conv=>whnf
 obtain ⟨⟨y72,y73⟩,hc,hk54⟩:=bind_some h
 clear h
 have h:=hc
 clear hc
 refine Cut.mk (mkSt [(6,.osl 64 1),(7,.osl 65 1)] [(64,.row 3 1 (List.map cI y72)),(65,.row 25 1 (List.map (cL cI) y73))] []) (lZ y72∧lZ y73∧True) ((Holds.kdl 64 rfl).and ((Holds.kdl 65 rfl).and (hT))) ?_ (fun hp=>?_)
 conv=>whnf
 refine Loops.iter (fun (s:List Int×List (List Int)×Nat)=>cover_Access.s2 c53 s.1 s.2.1 s.2.2) (fun (y76,y77,y78)=>mkSt [(6,.osl 64 1),(7,.osl 65 1),(18,.im (nL c_cover_place c53)),(19,.im (nI (↑(List.length c53):Int))),(20,.im (nI (↑y78:Int)))] [(64,.row 3 1 (List.map cI y76)),(65,.row 25 1 (List.map (cL cI) y77))] []) (fun (y76,y77,y78)=>lZ c53∧lZ y76∧lZ y77∧True) h (eA [(64,none),(65,none)]) (by rintro ⟨y76,y77,y78⟩;exact ((Holds.avl 18 rfl).and ((Holds.kdl 64 rfl).and ((Holds.kdl 65 rfl).and (hT))))) ?_
 clear h
 rintro k ⟨y76,y77,y78⟩ o hp h ho83
 replace h:cover_Access.s2 c53 y76 y77 y78=some o:=h
 unfold cover_Access.s2 at h
 obtain ⟨z88,z89,z90,_⟩:=hp
 conv=>whnf
 refine Both.mk ?_ ?_<;>intro b84
 obtain ⟨h,b84d⟩:=ctd b84 h
 conv=>whnf
 obtain ⟨e85,he85,h⟩:=idxn_some h
 refine ⟨_,⟨(by omega),map_at he85,rfl⟩,?_⟩
 conv=>whnf
 refine Side.mk rfl ?_
 conv=>whnf
 refine Side.mk rfl ?_
 conv=>whnf
 refine Side.mk rfl ?_
 conv=>whnf
 obtain ⟨c86,h⟩:=chk_some h
 refine Side.mk ⟨rfl,map_len (l:=[e85.state]) (c:=cI) fun _=>rfl,show capOk _ 8 by simpa only [List.length_map,List.length_cons,List.length_nil,Nat.zero_add] using c86⟩ ?_
 conv=>whnf
 refine Nf.mk (List.map cI (y76++[e85.state])) (app_map (l:=y76) (m:=[e85.state]) (c:=cI)) ?_
 conv=>whnf
 refine Side.mk rfl ?_
 conv=>whnf
 refine Side.mk rfl ?_
 conv=>whnf
 obtain ⟨c87,h⟩:=chk_some h
 refine Side.mk ⟨rfl,map_len (l:=[e85.word]) (c:=cL cI) fun _=>rfl,show capOk _ 24 by simpa only [List.length_map,List.length_cons,List.length_nil,Nat.zero_add] using c87⟩ ?_
 conv=>whnf
 refine Nf.mk (List.map (cL cI) (y77++[e85.word])) (app_map (l:=y77) (m:=[e85.word]) (c:=cL cI)) ?_
 conv=>whnf
 refine Arith.mk (by show inR _;unfold inR;omega) ?_
 conv=>whnf
 cases h
 exact Nxt.mk _ ho83 (eA [(64,some 64),(65,some 65)])
 obtain ⟨h,b84d⟩:=cfd b84 h
 conv=>whnf
 cases h
 have ho83:_=_:=ho83
 cases ho83
 exact Join.mk (eA [(64,some 64),(65,some 65)])
 replace h:cover_Access.k3 y72 y73=some _:=hk54
 unfold cover_Access.k3 at h
 obtain ⟨z91,z92,_⟩:=hp
 conv=>whnf
 cases h
 conv=>whnf
 exact Side.mk ⟨rfl,rfl,trivial⟩ ⟨rfl,rfl⟩
theorem sp_cover_StateCover (m_:T_api_Mealy) (r:List (List Int)×Int) (h:Ok (.agg (c_api_Mealy m_))→cover_StateCover m_=some r):Sp Tryz.prog 56 [.im (.agg (c_api_Mealy m_))] (.tup [nL (cL cI) r.1,nI r.2]):=by
 refine sp_of rfl [700001] rfl rfl rfl (Nat.le_of_ble_eq_true rfl) rfl fun hk=>?_
 replace h:=h hk.1
 have z1:lZ m_.Next:=ok_len (Ok.agg_at hk.1 2 rfl)
 have z2:lZ m_.Out:=ok_len (Ok.agg_at hk.1 3 rfl)
 unfold cover_StateCover at h
 conv=>whnf
 obtain ⟨c51,hc51,h⟩:=bind_some h
 refine ⟨_,(sp_cover_Access m_ c51 (fun _=>hc51)),?_⟩
 conv=>whnf
 cases h
 conv=>whnf
 exact ⟨rfl,rfl⟩
theorem sp_cover_Transitions (m_:T_api_Mealy) (r:List (List Int)×Int) (h:Ok (.agg (c_api_Mealy m_))→cover_Transitions m_=some r):Sp Tryz.prog 57 [.im (.agg (c_api_Mealy m_))] (.tup [nL (cL cI) r.1,nI r.2]):=by
 refine sp_of rfl [700001] rfl rfl rfl (Nat.le_of_ble_eq_true rfl) rfl fun hk=>?_
 replace h:=h hk.1
 have z1:lZ m_.Next:=ok_len (Ok.agg_at hk.1 2 rfl)
 have z2:lZ m_.Out:=ok_len (Ok.agg_at hk.1 3 rfl)
 unfold cover_Transitions at h
 conv=>whnf
 obtain ⟨c51,hc51,h⟩:=bind_some h
 refine ⟨_,(sp_cover_Access m_ c51 (fun _=>hc51)),?_⟩
 conv=>whnf
 refine Both.mk ?_ ?_<;>intro b52
 obtain ⟨h,b52d⟩:=ctd b52 h
 conv=>whnf
 cases h
 conv=>whnf
 exact ⟨rfl,rfl⟩
 obtain ⟨h,b52d⟩:=cfd b52 h
 conv=>whnf
 refine Nf.mk (List.length c51.2.1) len_map ?_
 conv=>whnf
 obtain ⟨y177,hc,hk53⟩:=bind_some h
 clear h
 have h:=hc
 clear hc
 refine Cut.mk (mkSt [(7,.osl 64 1)] [(64,.row 25 1 (List.map (cL cI) y177))] []) (lZ y177∧True) ((Holds.kdl 64 rfl).and (hT)) ?_ (fun hp=>?_)
 conv=>whnf
 refine Loops.iter (fun (s:List (List Int)×Nat)=>cover_Transitions.s14 m_ c51 s.1 s.2) (fun (y216,y217)=>mkSt [(1,.im (.ref (c_api_Mealy m_))),(7,.osl 64 1),(20,.im (nL (cL cI) c51.2.1)),(21,.im (nI (↑(List.length c51.2.1):Int))),(22,.im (nI (↑y217:Int)))] [(64,.row 25 1 (List.map (cL cI) y216))] []) (fun (y216,y217)=>lZ c51.2.1∧lZ y216∧True) h (eA [(64,none)]) (by rintro ⟨y216,y217⟩;exact ((Holds.avl 20 rfl).and ((Holds.kdl 64 rfl).and (hT)))) ?_
 clear h
 rintro k ⟨y216,y217⟩ o hp h ho258
 replace h:cover_Transitions.s14 m_ c51 y216 y217=some o:=h
 unfold cover_Transitions.s14 at h
 obtain ⟨z299,z300,_⟩:=hp
 conv=>whnf
 refine Both.mk ?_ ?_<;>intro b259
 obtain ⟨h,b259d⟩:=ctd b259 h
 conv=>whnf
 obtain ⟨e260,he260,h⟩:=idxn_some h
 refine ⟨_,⟨(by omega),map_at he260,rfl⟩,?_⟩
 conv=>whnf
 obtain ⟨y279,hc,hk261⟩:=bind_some h
 clear h
 have h:=hc
 clear hc
 refine Cut.mk (mkSt [(1,.im (.ref (c_api_Mealy m_))),(7,.osl 64 1),(20,.im (nL (cL cI) c51.2.1)),(21,.im (nI (↑(List.length c51.2.1):Int))),(22,.im (nI (↑y217:Int)))] [(64,.row 25 1 (List.map (cL cI) y279))] []) (lZ c51.2.1∧lZ y279∧True) ((Holds.avl 20 rfl).and ((Holds.kdl 64 rfl).and (hT))) ?_ (fun hp=>?_)
 conv=>whnf
 refine Loops.iter (fun (s:List (List Int)×Nat)=>cover_Transitions.s13 m_ e260 s.1 s.2) (fun (y283,y284)=>mkSt [(1,.im (.ref (c_api_Mealy m_))),(7,.osl 64 1),(9,.im (nL cI e260)),(20,.im (nL (cL cI) c51.2.1)),(21,.im (nI (↑(List.length c51.2.1):Int))),(22,.im (nI (↑y217:Int))),(27,.im (nI m_.Inputs)),(28,.im (nI (↑y284:Int)))] [(64,.row 25 1 (List.map (cL cI) y283))] []) (fun (y283,y284)=>lZ e260∧lZ c51.2.1∧lZ y283∧True) h (eA [(64,some 64)]) (by rintro ⟨y283,y284⟩;exact ((Holds.avl 9 rfl).and ((Holds.avl 20 rfl).and ((Holds.kdl 64 rfl).and (hT))))) ?_
 clear h
 rintro k ⟨y283,y284⟩ o hp h ho289
 replace h:cover_Transitions.s13 m_ e260 y283 y284=some o:=h
 unfold cover_Transitions.s13 at h
 obtain ⟨z294,z295,z296,_⟩:=hp
 conv=>whnf
 refine Both.mk ?_ ?_<;>intro b290
 obtain ⟨h,b290d⟩:=ctd b290 h
 conv=>whnf
 obtain ⟨c291,hc291,h⟩:=bind_some h
 refine ⟨_,(sp_word_Join [e260,[(↑y284:Int)]] c291 (fun _=>hc291)),?_⟩
 conv=>whnf
 obtain ⟨c292,h⟩:=chk_some h
 refine Side.mk ⟨rfl,map_len (l:=[c291]) (c:=cL cI) fun _=>rfl,show capOk _ 24 by simpa only [List.length_map,List.length_cons,List.length_nil,Nat.zero_add] using c292⟩ ?_
 conv=>whnf
 refine Nf.mk (List.map (cL cI) (y283++[c291])) (app_map (l:=y283) (m:=[c291]) (c:=cL cI)) ?_
 conv=>whnf
 obtain ⟨c293,h⟩:=chk_some h
 refine Arith.mk c293 ?_
 conv=>whnf
 cases h
 exact Nxt.mk _ ho289 (eA [(64,some 64)])
 obtain ⟨h,b290d⟩:=cfd b290 h
 conv=>whnf
 cases h
 have ho289:_=_:=ho289
 cases ho289
 exact Join.mk (eA [(64,some 64)])
 replace h:=hk261
 obtain ⟨z297,z298,_⟩:=hp
 conv=>whnf
 refine Arith.mk (by show inR _;unfold inR;omega) ?_
 conv=>whnf
 cases h
 exact Nxt.mk _ ho258 (eA [(64,some 64)])
 obtain ⟨h,b259d⟩:=cfd b259 h
 conv=>whnf
 cases h
 have ho258:_=_:=ho258
 cases ho258
 exact Join.mk (eA [(64,some 64)])
 replace h:=hk53
 obtain ⟨z301,_⟩:=hp
 conv=>whnf
 refine Side.mk ⟨rfl,trivial⟩ ?_
 conv=>whnf
 obtain ⟨c302,hc302,h⟩:=bind_some h
 refine ⟨_,(sp_wordset_Sorted y177 c302 (fun _=>hc302)).im,?_⟩
 conv=>whnf
 cases h
 conv=>whnf
 exact ⟨rfl,rfl⟩
theorem sp_separate_outs (m_:T_api_Mealy) (s_:Int) (w_:List Int) (r:List Int) (h:Ok (.agg (c_api_Mealy m_))→Ok (nI s_)→Ok (nL cI w_)→separate_outs m_ s_ w_=some r):Sp Tryz.prog 123 [.im (.agg (c_api_Mealy m_)),.im (nI s_),.im (nL cI w_)] (.row 3 1 (List.map cI r)):=by
 refine sp_of rfl [700003] rfl rfl rfl (Nat.le_of_ble_eq_true rfl) rfl fun hk=>?_
 replace h:=h hk.1 hk.2.1 hk.2.2.1
 have z1:lZ m_.Next:=ok_len (Ok.agg_at hk.1 2 rfl)
 have z2:lZ m_.Out:=ok_len (Ok.agg_at hk.1 3 rfl)
 have z3:lZ w_:=ok_len hk.2.2.1
 unfold separate_outs at h
 conv=>whnf
 refine Nf.mk (List.length w_) len_map ?_
 conv=>whnf
 obtain ⟨c51,h⟩:=chk_some h
 refine Side.mk c51 ?_
 conv=>whnf
 refine Nf.mk (List.map cI []) rfl ?_
 conv=>whnf
 refine Nf.mk (List.length w_) len_map ?_
 conv=>whnf
 obtain ⟨y80,hc,hk52⟩:=bind_some h
 clear h
 have h:=hc
 clear hc
 refine Cut.mk (mkSt [(7,.osl 64 1)] [(64,.row 3 1 (List.map cI y80))] []) (lZ y80∧True) ((Holds.kdl 64 rfl).and (hT)) ?_ (fun hp=>?_)
 conv=>whnf
 refine Loops.iter (fun (s:Int×List Int×Nat)=>separate_outs.s2 m_ w_ s.1 s.2.1 s.2.2) (fun (s88,y89,y90)=>mkSt [(1,.im (nI s88)),(3,.im (.ref (c_api_Mealy m_))),(7,.osl 64 1),(13,.im (nL cI w_)),(14,.im (nI (↑(List.length w_):Int))),(15,.im (nI (↑y90:Int)))] [(64,.row 3 1 (List.map cI y89))] []) (fun (s88,y89,y90)=>lZ w_∧lZ y89∧True) h (eA [(64,some 12)]) (by rintro ⟨s88,y89,y90⟩;exact ((Holds.avl 13 rfl).and ((Holds.kdl 64 rfl).and (hT)))) ?_
 clear h
 rintro k ⟨s88,y89,y90⟩ o hp h ho98
 replace h:separate_outs.s2 m_ w_ s88 y89 y90=some o:=h
 unfold separate_outs.s2 at h
 obtain ⟨z106,z107,_⟩:=hp
 conv=>whnf
 refine Both.mk ?_ ?_<;>intro b99
 obtain ⟨h,b99d⟩:=ctd b99 h
 conv=>whnf
 obtain ⟨e100,he100,h⟩:=idxn_some h
 refine ⟨_,⟨(by omega),map_at he100,rfl⟩,?_⟩
 conv=>whnf
 obtain ⟨e101,he101z,he101,h⟩:=idx_some h
 refine ⟨_,⟨he101z,map_at he101,rfl⟩,?_⟩
 conv=>whnf
 obtain ⟨e102,he102z,he102,h⟩:=idx_some h
 refine ⟨_,⟨he102z,map_at he102,rfl⟩,?_⟩
 conv=>whnf
 obtain ⟨c103,h⟩:=chk_some h
 refine Side.mk ⟨rfl,map_len (l:=[e102]) (c:=cI) fun _=>rfl,show capOk _ 8 by simpa only [List.length_map,List.length_cons,List.length_nil,Nat.zero_add] using c103⟩ ?_
 conv=>whnf
 refine Nf.mk (List.map cI (y89++[e102])) (app_map (l:=y89) (m:=[e102]) (c:=cI)) ?_
 conv=>whnf
 obtain ⟨e104,he104z,he104,h⟩:=idx_some h
 refine ⟨_,⟨he104z,map_at he104,rfl⟩,?_⟩
 conv=>whnf
 obtain ⟨e105,he105z,he105,h⟩:=idx_some h
 refine ⟨_,⟨he105z,map_at he105,rfl⟩,?_⟩
 conv=>whnf
 refine Arith.mk (by show inR _;unfold inR;omega) ?_
 conv=>whnf
 cases h
 exact Nxt.mk _ ho98 (eA [(64,some 64)])
 obtain ⟨h,b99d⟩:=cfd b99 h
 conv=>whnf
 cases h
 have ho98:_=_:=ho98
 cases ho98
 exact Join.mk (eA [(64,some 64)])
 replace h:=hk52
 obtain ⟨z108,_⟩:=hp
 conv=>whnf
 cases h
 conv=>whnf
 exact Side.mk ⟨rfl,trivial⟩ ⟨rfl,rfl⟩
theorem sp_slices_Equal_Sint_int (s1_:List Int) (s2_:List Int) (r:Bool) (h:Ok (nL cI s1_)→Ok (nL cI s2_)→slices_Equal_Sint_int s1_ s2_=some r):Sp Tryz.prog 122 [.im (nL cI s1_),.im (nL cI s2_)] (.im (nB r)):=by
 refine sp_of rfl [] rfl rfl rfl (Nat.le_of_ble_eq_true rfl) rfl fun hk=>?_
 replace h:=h hk.1 hk.2.1
 have z1:lZ s1_:=ok_len hk.1
 have z2:lZ s2_:=ok_len hk.2.1
 unfold slices_Equal_Sint_int at h
 conv=>whnf
 refine Nf.mk (List.length s1_) len_map ?_
 conv=>whnf
 refine Nf.mk (List.length s2_) len_map ?_
 conv=>whnf
 refine Both.mk ?_ ?_<;>intro b51
 obtain ⟨h,b51d⟩:=ctd b51 h
 conv=>whnf
 cases h
 conv=>whnf
 exact ⟨rfl,rfl⟩
 obtain ⟨h,b51d⟩:=cfd b51 h
 conv=>whnf
 refine Nf.mk (List.length s1_) len_map ?_
 conv=>whnf
 obtain ⟨oc,hc,hk52⟩:=bind_some h
 clear h
 have h:=hc
 clear hc
 refine Cut.mkS oc (Y:=Unit) (fun (_:Unit)=>mkSt [] [] []) (fun (_:Unit)=>True) (by rintro ⟨⟩;exact (hT)) ?_ ?_
 conv=>whnf
 refine Loops.iter (fun (s:Nat)=>slices_Equal_Sint_int.s2 s1_ s2_ s) (fun y73=>mkSt [(0,.im (nL cI s1_)),(1,.im (nL cI s2_)),(12,.im (nI (↑(List.length s1_):Int))),(13,.im (nI (↑y73:Int)))] [] []) (fun y73=>lZ s1_∧lZ s2_∧True) h (eA []) (by rintro y73;exact ((Holds.avl 0 rfl).and ((Holds.avl 1 rfl).and (hT)))) ?_
 clear h
 rintro k y73 o hp h ho78
 replace h:slices_Equal_Sint_int.s2 s1_ s2_ y73=some o:=h
 unfold slices_Equal_Sint_int.s2 at h
 obtain ⟨z83,z84,_⟩:=hp
 conv=>whnf
 refine Both.mk ?_ ?_<;>intro b79
 obtain ⟨h,b79d⟩:=ctd b79 h
 conv=>whnf
 obtain ⟨e80,he80,h⟩:=idxn_some h
 refine ⟨_,⟨(by omega),map_at he80,rfl⟩,?_⟩
 conv=>whnf
 obtain ⟨e81,he81,h⟩:=idxn_some h
 refine ⟨_,⟨(by omega),map_at he81,rfl⟩,?_⟩
 conv=>whnf
 refine Both.mk ?_ ?_<;>intro b82
 obtain ⟨h,b82d⟩:=ctd b82 h
 conv=>whnf
 cases h
 have ho78:_=_:=ho78
 cases ho78
 replace h:some _=some _:=hk52
 cases h
 conv=>whnf
 exact ⟨rfl,rfl⟩
 obtain ⟨h,b82d⟩:=cfd b82 h
 conv=>whnf
 refine Arith.mk (by show inR _;unfold inR;omega) ?_
 conv=>whnf
 cases h
 exact Nxt.mk _ ho78 (eA [])
 obtain ⟨h,b79d⟩:=cfd b79 h
 conv=>whnf
 cases h
 have ho78:_=_:=ho78
 cases ho78
 exact JoinS.mk' _ rfl (eA [])
 rintro ⟨⟩ rfl hp
 replace h:=sum_inl hk52
 conv=>whnf
 cases h
 conv=>whnf
 exact ⟨rfl,rfl⟩
theorem sp_separate_separated_1 (w_:List Int) (p1_:T_api_Mealy) (p2_:Int) (p3_:Int) (r:Bool) (h:Ok (nL cI w_)→Ok (.ref (c_api_Mealy p1_))→Ok (.ref (cI p2_))→Ok (.ref (cI p3_))→separate_separated_1 w_ p1_ p2_ p3_=some r):Sp Tryz.prog 121 [.im (nL cI w_),.im (.ref (c_api_Mealy p1_)),.im (.ref (cI p2_)),.im (.ref (cI p3_))] (.im (nB r)):=by
 refine sp_of rfl [] rfl rfl rfl (Nat.le_of_ble_eq_true rfl) rfl fun hk=>?_
 replace h:=h hk.1 hk.2.1 hk.2.2.1 hk.2.2.2.1
 have z1:lZ w_:=ok_len hk.1
 have z2:lZ p1_.Next:=ok_len (Ok.ref_at hk.2.1 2 rfl)
 have z3:lZ p1_.Out:=ok_len (Ok.ref_at hk.2.1 3 rfl)
 unfold separate_separated_1 at h
 conv=>whnf
 obtain ⟨c51,hc51,h⟩:=bind_some h
 refine ⟨_,(sp_separate_outs p1_ p2_ w_ c51 (fun _ _ _=>hc51)).im,?_⟩
 conv=>whnf
 obtain ⟨c52,hc52,h⟩:=bind_some h
 refine ⟨_,(sp_separate_outs p1_ p3_ w_ c52 (fun _ _ _=>hc52)).im,?_⟩
 conv=>whnf
 obtain ⟨c53,hc53,h⟩:=bind_some h
 refine ⟨_,(sp_slices_Equal_Sint_int c51 c52 c53 (fun _ _=>hc53)),?_⟩
 conv=>whnf
 cases h
 conv=>whnf
 exact ⟨rfl,rfl⟩
theorem sp_separate_some_Sint_n3 (l_:List (List Int)) (has_:(List Int)→Option Bool) (f1_:FuncId) (k1_0 k1_1 k1_2:IV) (hk1_0:nz k1_0=k1_0) (hk1_1:nz k1_1=k1_1) (hk1_2:nz k1_2=k1_2) (hf1:∀ x0 r,has_ x0=some r→Sp Tryz.prog f1_ [.im (nL cI x0),.im k1_0,.im k1_1,.im k1_2] (.im (nB r))) (r:Bool) (h:Ok (nL (cL cI) l_)→Ok (.fn f1_ [k1_0,k1_1,k1_2])→separate_some_Sint_n3 l_ has_=some r):Sp Tryz.prog 120 [.im (nL (cL cI) l_),.im (.fn f1_ [k1_0,k1_1,k1_2])] (.im (nB r)):=by
 refine sp_of rfl [] rfl rfl rfl (Nat.le_of_ble_eq_true rfl) rfl fun hk=>?_
 replace h:=h hk.1 hk.2.1
 have z1:lZ l_:=ok_len hk.1
 unfold separate_some_Sint_n3 at h
 conv=>whnf
 refine Nf.mk (List.length l_) len_map ?_
 conv=>whnf
 obtain ⟨oc,hc,hk51⟩:=bind_some h
 clear h
 have h:=hc
 clear hc
 refine Cut.mkS oc (Y:=Unit) (fun (_:Unit)=>mkSt [] [] []) (fun (_:Unit)=>True) (by rintro ⟨⟩;exact (hT)) ?_ ?_
 conv=>whnf
 refine Loops.iter (fun (s:Nat)=>separate_some_Sint_n3.s2 l_ has_ s) (fun y71=>mkSt [(1,.im (.fn f1_ [k1_0,k1_1,k1_2])),(7,.im (nL (cL cI) l_)),(8,.im (nI (↑(List.length l_):Int))),(9,.im (nI (↑y71:Int)))] [] []) (fun y71=>lZ l_∧True) h (eA []) (by rintro y71;exact ((Holds.avl 7 rfl).and (hT))) ?_
 clear h
 rintro k y71 o hp h ho76
 replace h:separate_some_Sint_n3.s2 l_ has_ y71=some o:=h
 unfold separate_some_Sint_n3.s2 at h
 obtain ⟨z81,_⟩:=hp
 conv=>whnf
 refine Both.mk ?_ ?_<;>intro b77
 obtain ⟨h,b77d⟩:=ctd b77 h
 conv=>whnf
 obtain ⟨e78,he78,h⟩:=idxn_some h
 refine ⟨_,⟨(by omega),map_at he78,rfl⟩,?_⟩
 conv=>whnf
 obtain ⟨c79,hc79,h⟩:=bind_some h
 refine ⟨_,Sp.args (hf1 e78 c79 hc79) (by rw [hk1_0,hk1_1,hk1_2];try rfl),?_⟩
 conv=>whnf
 refine Both.mk ?_ ?_<;>intro b80
 replace h:=cond_t b80 h
 conv=>whnf
 cases h
 have ho76:_=_:=ho76
 cases ho76
 replace h:some _=some _:=hk51
 cases h
 conv=>whnf
 exact ⟨rfl,rfl⟩
 replace h:=cond_f b80 h
 conv=>whnf
 refine Arith.mk (by show inR _;unfold inR;omega) ?_
 conv=>whnf
 cases h
 exact Nxt.mk _ ho76 (eA [])
 obtain ⟨h,b77d⟩:=cfd b77 h
 conv=>whnf
 cases h
 have ho76:_=_:=ho76
 cases ho76
 exact JoinS.mk' _ rfl (eA [])
 rintro ⟨⟩ rfl hp
 replace h:=sum_inl hk51
 conv=>whnf
 cases h
 conv=>whnf
 exact ⟨rfl,rfl⟩
theorem sp_separate_separated (m_:T_api_Mealy) (words_:List (List Int)) (s_:Int) (t_:Int) (r:Bool) (h:Ok (.agg (c_api_Mealy m_))→Ok (nL (cL cI) words_)→Ok (nI s_)→Ok (nI t_)→separate_separated m_ words_ s_ t_=some r):Sp Tryz.prog 91 [.im (.agg (c_api_Mealy m_)),.im (nL (cL cI) words_),.im (nI s_),.im (nI t_)] (.im (nB r)):=by
 refine sp_of rfl [700004,700006,700007] rfl rfl rfl (Nat.le_of_ble_eq_true rfl) rfl fun hk=>?_
 replace h:=h hk.1 hk.2.1 hk.2.2.1 hk.2.2.2.1
 have z1:lZ m_.Next:=ok_len (Ok.agg_at hk.1 2 rfl)
 have z2:lZ m_.Out:=ok_len (Ok.agg_at hk.1 3 rfl)
 have z3:lZ words_:=ok_len hk.2.1
 unfold separate_separated at h
 conv=>whnf
 obtain ⟨c51,hc51,h⟩:=bind_some h
 refine ⟨_,(sp_separate_some_Sint_n3 words_ (fun u0=>separate_separated_1 u0 m_ s_ t_) 121 (.ref (c_api_Mealy m_)) (.ref (cI s_)) (.ref (cI t_)) rfl rfl rfl (fun u0 r h=>(sp_separate_separated_1 u0 m_ s_ t_ r (fun _ _ _ _=>h))) c51 (fun _ _=>hc51)),?_⟩
 conv=>whnf
 cases h
 conv=>whnf
 exact ⟨rfl,rfl⟩
theorem sp_minimize_Minimal (m_:T_api_Mealy) (r:Bool) (h:Ok (.agg (c_api_Mealy m_))→minimize_Minimal m_=some r):Sp Tryz.prog 119 [.im (.agg (c_api_Mealy m_))] (.im (nB r)):=by
 refine sp_of rfl [700001] rfl rfl rfl (Nat.le_of_ble_eq_true rfl) rfl fun hk=>?_
 replace h:=h hk.1
 have z1:lZ m_.Next:=ok_len (Ok.agg_at hk.1 2 rfl)
 have z2:lZ m_.Out:=ok_len (Ok.agg_at hk.1 3 rfl)
 unfold minimize_Minimal at h
 conv=>whnf
 obtain ⟨y56,hc,hk52⟩:=bind_some h
 clear h
 have h:=hc
 clear hc
 refine Cut.mk (mkSt [(1,.im (.ref (c_api_Mealy m_))),(16,.im (nB y56))] [] []) (True) (hT) ?_ (fun hp=>?_)
 conv=>whnf
 obtain ⟨c57,hc57,h⟩:=bind_some h
 refine ⟨_,(sp_mealy_Valid m_ c57 (fun _=>hc57)),?_⟩
 conv=>whnf
 refine Both.mk ?_ ?_<;>intro b58
 replace b58:=beq_ff b58
 obtain ⟨h,b58d⟩:=cfd b58 h
 conv=>whnf
 refine Both.yes (ff_beq b58) ?_
 conv=>whnf
 obtain ⟨c59,hc59,h⟩:=bind_some h
 refine ⟨_,(sp_mealy_Reach m_ c59 (fun _=>hc59)).im,?_⟩
 conv=>whnf
 refine Both.yes (ff_beq b58) ?_
 conv=>whnf
 refine Nf.mk (List.length c59) len_map ?_
 conv=>whnf
 iterate 3 (refine Both.yes (ff_beq b58) ?_;(conv=>whnf))
 refine Nf.mk (List.length m_.Next) len_map ?_
 conv=>whnf
 refine Both.yes (ff_beq b58) ?_
 conv=>whnf
 refine Both.no b58 ?_
 conv=>whnf
 cases h
 exact Join.mk (eA [])
 replace b58:=beq_ft b58
 obtain ⟨h,b58d⟩:=ctd b58 h
 conv=>whnf
 iterate 6 (refine Both.no (tf_beq b58) ?_;(conv=>whnf))
 refine Both.yes b58 ?_
 conv=>whnf
 cases h
 exact Join.mk (eA [])
 replace h:=hk52
 conv=>whnf
 refine Both.mk ?_ ?_<;>intro b60
 replace h:=cond_t b60 h
 conv=>whnf
 cases h
 conv=>whnf
 exact ⟨rfl,rfl⟩
 replace h:=cond_f b60 h
 conv=>whnf
 obtain ⟨c61,hc61,h⟩:=bind_some h
 refine ⟨_,(sp_minimize_Min m_ c61 (fun _=>hc61)),?_⟩
 conv=>whnf
 refine Side.mk rfl ?_
 conv=>whnf
 obtain ⟨y65,hc,hk63⟩:=bind_some h
 clear h
 have h:=hc
 clear hc
 refine Cut.mk (mkSt [(2,.im (nB y65))] [] []) (True) (hT) ?_ (fun hp=>?_)
 conv=>whnf
 refine Both.mk ?_ ?_<;>intro b66
 replace b66:=beq_tt b66
 obtain ⟨h,b66d⟩:=ctd b66 h
 conv=>whnf
 refine Side.mk rfl ?_
 conv=>whnf
 refine Both.yes (tt_beq b66) ?_
 conv=>whnf
 refine Side.mk rfl ?_
 conv=>whnf
 refine Both.yes (tt_beq b66) ?_
 conv=>whnf
 refine Nf.mk (List.length c61.1.Next) len_map ?_
 conv=>whnf
 iterate 3 (refine Both.yes (tt_beq b66) ?_;(conv=>whnf))
 refine Nf.mk (List.length m_.Next) len_map ?_
 conv=>whnf
 refine Both.yes (tt_beq b66) ?_
 conv=>whnf
 refine Both.yes b66 ?_
 conv=>whnf
 cases h
 exact Join.mk (eA [])
 replace b66:=beq_tf b66
 obtain ⟨h,b66d⟩:=cfd b66 h
 conv=>whnf
 iterate 6 (refine Both.no (ft_beq b66) ?_;(conv=>whnf))
 refine Both.no b66 ?_
 conv=>whnf
 cases h
 exact Join.mk (eA [])
 replace h:=hk63
 conv=>whnf
 cases h
 conv=>whnf
 exact ⟨rfl,rfl⟩
theorem sp_separate_check (m_:T_api_Mealy) (r:Int) (h:Ok (.agg (c_api_Mealy m_))→separate_check m_=some r):Sp Tryz.prog 90 [.im (.agg (c_api_Mealy m_))] (.im (nI r)):=by
 refine sp_of rfl [700001] rfl rfl rfl (Nat.le_of_ble_eq_true rfl) rfl fun hk=>?_
 replace h:=h hk.1
 have z1:lZ m_.Next:=ok_len (Ok.agg_at hk.1 2 rfl)
 have z2:lZ m_.Out:=ok_len (Ok.agg_at hk.1 3 rfl)
 unfold separate_check at h
 conv=>whnf
 obtain ⟨c51,hc51,h⟩:=bind_some h
 refine ⟨_,(sp_mealy_Valid m_ c51 (fun _=>hc51)),?_⟩
 conv=>whnf
 refine Both.mk ?_ ?_<;>intro b52
 obtain ⟨h,b52d⟩:=ctd b52 h
 conv=>whnf
 cases h
 conv=>whnf
 exact ⟨rfl,rfl⟩
 obtain ⟨h,b52d⟩:=cfd b52 h
 conv=>whnf
 obtain ⟨c53,hc53,h⟩:=bind_some h
 refine ⟨_,(sp_minimize_Minimal m_ c53 (fun _=>hc53)),?_⟩
 conv=>whnf
 refine Both.mk ?_ ?_<;>intro b54
 replace h:=cond_t b54 h
 conv=>whnf
 cases h
 conv=>whnf
 exact ⟨rfl,rfl⟩
 replace h:=cond_f b54 h
 conv=>whnf
 cases h
 conv=>whnf
 exact ⟨rfl,rfl⟩
theorem sp_equiv_search (a_:T_api_Mealy) (b_:T_api_Mealy) (first_:T_equiv_pair) (r:List Int×Bool) (h:Ok (.agg (c_api_Mealy a_))→Ok (.agg (c_api_Mealy b_))→Ok (.agg (c_equiv_pair first_))→equiv_search a_ b_ first_=some r):Sp Tryz.prog 124 [.im (.agg (c_api_Mealy a_)),.im (.agg (c_api_Mealy b_)),.im (.agg (c_equiv_pair first_))] (.tup [nL cI r.1,nB r.2]):=by
 refine sp_of rfl [42,600018,700003,700004,700005] rfl rfl rfl (Nat.le_of_ble_eq_true rfl) rfl fun hk=>?_
 replace h:=h hk.1 hk.2.1 hk.2.2.1
 have z1:lZ a_.Next:=ok_len (Ok.agg_at hk.1 2 rfl)
 have z2:lZ a_.Out:=ok_len (Ok.agg_at hk.1 3 rfl)
 have z3:lZ b_.Next:=ok_len (Ok.agg_at hk.2.1 2 rfl)
 have z4:lZ b_.Out:=ok_len (Ok.agg_at hk.2.1 3 rfl)
 unfold equiv_search at h
 conv=>whnf
 refine Nf.mk (List.length a_.Next) len_map ?_
 conv=>whnf
 obtain ⟨c51,h⟩:=chk_some h
 refine Side.mk c51 ?_
 conv=>whnf
 refine Nf.mk (List.map (cL cB) (List.replicate (List.length a_.Next) ([]:List Bool))) (rep_map (c:=(cL cB)) (z:=([]:List Bool)) (n:=(List.length a_.Next)) rfl rfl) ?_
 conv=>whnf
 refine Side.mk rfl ?_
 conv=>whnf
 refine Nf.mk (List.length (List.replicate (List.length a_.Next) ([]:List Bool))) len_map ?_
 conv=>whnf
 obtain ⟨y68,hc,hk52⟩:=bind_some h
 clear h
 have h:=hc
 clear hc
 refine Cut.mk (mkSt [(3,.im (.ref (c_api_Mealy a_))),(4,.im (.ref (c_api_Mealy b_))),(5,.im (.ref (c_equiv_pair first_))),(8,.osl 144 1)] [(144,.grid 85 4 1 (List.map (cL cB) y68) none)] []) (lZ y68∧True) ((Holds.kdg 144 rfl).and (hT)) ?_ (fun hp=>?_)
 conv=>whnf
 refine Loops.iter (fun (s:List (List Bool)×Nat)=>equiv_search.s2 a_ b_ s.1 s.2) (fun (y72,y73)=>mkSt [(3,.im (.ref (c_api_Mealy a_))),(4,.im (.ref (c_api_Mealy b_))),(5,.im (.ref (c_equiv_pair first_))),(8,.osl 144 1),(20,.im (nI (↑(List.length (List.replicate (List.length a_.Next) ([]:List Bool))):Int))),(21,.im (nI (↑y73:Int)))] [(144,.grid 85 4 1 (List.map (cL cB) y72) none)] []) (fun (y72,y73)=>lZ y72∧True) h (eA [(144,some 18)]) (by rintro ⟨y72,y73⟩;exact ((Holds.kdg 144 rfl).and (hT))) ?_
 clear h
 rintro k ⟨y72,y73⟩ o hp h ho78
 replace h:equiv_search.s2 a_ b_ y72 y73=some o:=h
 unfold equiv_search.s2 at h
 obtain ⟨z83,_⟩:=hp
 conv=>whnf
 refine Both.mk ?_ ?_<;>intro b79
 obtain ⟨h,b79d⟩:=ctd b79 h
 conv=>whnf
 refine Nf.mk (List.length b_.Next) len_map ?_
 conv=>whnf
 obtain ⟨c80,h⟩:=chk_some h
 refine Side.mk c80 ?_
 conv=>whnf
 refine Nf.mk (List.map cB (List.replicate (List.length b_.Next) false)) (rep_map (c:=cB) (z:=false) (n:=(List.length b_.Next)) rfl rfl) ?_
 conv=>whnf
 obtain ⟨e81,he81,h⟩:=idxn_some h
 refine Side.mk ⟨(by omega),rfl,map_lt he81⟩ ?_
 conv=>whnf
 refine Side.mk ⟨rfl,rfl,map_lt he81,trivial⟩ ?_
 conv=>whnf
 refine Nf.mk (List.map (cL cB) (List.set y72 y73 (List.replicate (List.length b_.Next) false))) set_grid1 ?_
 conv=>whnf
 obtain ⟨c82,h⟩:=chk_some h
 refine Arith.mk c82 ?_
 conv=>whnf
 cases h
 exact Nxt.mk _ ho78 (eA [(144,some 144)])
 obtain ⟨h,b79d⟩:=cfd b79 h
 conv=>whnf
 cases h
 have ho78:_=_:=ho78
 cases ho78
 exact Join.mk (eA [(144,some 144)])
 replace h:=hk52
 obtain ⟨z84,_⟩:=hp
 conv=>whnf
 obtain ⟨e85,he85z,he85,h⟩:=idx_some h
 refine Side.mk ⟨he85z,rfl,map_lt he85⟩ ?_
 conv=>whnf
 refine Side.mk ⟨rfl,map_lt he85⟩ ?_
 conv=>whnf
 obtain ⟨e86,he86z,he86,h⟩:=idx_some h
 refine ⟨_,⟨he86z,rfl,map_at he85,map_lt he86⟩,?_⟩
 conv=>whnf
 refine ⟨_,_,⟨rfl,map_at he85,map_at he86⟩,?_⟩
 conv=>whnf
 refine Nf.mk (List.map (cL cB) (List.set y68 (Int.toNat first_.s) (List.set e85 (Int.toNat first_.t) true))) (set_grid2 rfl) ?_
 conv=>whnf
 obtain ⟨oc,hc,hk87⟩:=bind_some h
 clear h
 have h:=hc
 clear hc
 refine Cut.mkS oc (Y:=Unit) (fun (_:Unit)=>mkSt [] [] []) (fun (_:Unit)=>True) (by rintro ⟨⟩;exact (hT)) ?_ ?_
 conv=>whnf
 refine Loops.iter (fun (s:List (List Bool)×List T_equiv_place×Nat)=>equiv_search.s22 a_ b_ s.1 s.2.1 s.2.2) (fun (y898,y899,i900)=>mkSt [(3,.im (.ref (c_api_Mealy a_))),(4,.im (.ref (c_api_Mealy b_))),(8,.osl 144 1),(10,.osl 145 1),(11,.im (nI (↑i900:Int)))] [(144,.grid 85 4 1 (List.map (cL cB) y898) none),(145,.row 170 3 (List.map c_equiv_place y899))] []) (fun (y898,y899,i900)=>lZ y898∧lZ y899∧True) h (eA [(144,some 144),(145,some 42)]) (by rintro ⟨y898,y899,i900⟩;exact ((Holds.kdg 144 rfl).and ((Holds.kdl 145 rfl).and (hT)))) ?_
 clear h
 rintro k ⟨y898,y899,i900⟩ o hp h ho1102
 replace h:equiv_search.s22 a_ b_ y898 y899 i900=some o:=h
 unfold equiv_search.s22 at h
 obtain ⟨z1304,z1305,_⟩:=hp
 conv=>whnf
 refine Side.mk rfl ?_
 conv=>whnf
 refine Nf.mk (List.length y899) len_map ?_
 conv=>whnf
 refine Both.mk ?_ ?_<;>intro b1103
 obtain ⟨h,b1103d⟩:=ctd b1103 h
 conv=>whnf
 obtain ⟨e1104,he1104,h⟩:=idxn_some h
 refine Side.mk ⟨(by omega),rfl,map_lt he1104⟩ ?_
 conv=>whnf
 refine Side.mk rfl ?_
 conv=>whnf
 refine ⟨_,⟨rfl,map_at he1104,of_decide_eq_true rfl,rfl⟩,?_⟩
 conv=>whnf
 refine Side.mk rfl ?_
 conv=>whnf
 obtain ⟨oc,hc,hk1105⟩:=bind_some h
 clear h
 have h:=hc
 clear hc
 refine Cut.mkS oc (Y:=List (List Bool)×List T_equiv_place) (fun (y1203,y1204)=>mkSt [(3,.im (.ref (c_api_Mealy a_))),(4,.im (.ref (c_api_Mealy b_))),(8,.osl 144 1),(10,.osl 145 1),(11,.im (nI (↑i900:Int)))] [(144,.grid 85 4 1 (List.map (cL cB) y1203) none),(145,.row 170 3 (List.map c_equiv_place y1204))] []) (fun (y1203,y1204)=>lZ y1203∧lZ y1204∧True) (by rintro ⟨y1203,y1204⟩;exact ((Holds.kdg 144 rfl).and ((Holds.kdl 145 rfl).and (hT)))) ?_ ?_
 conv=>whnf
 refine Loops.iter (fun (s:List (List Bool)×List T_equiv_place×Nat)=>equiv_search.s20 a_ b_ i900 e1104 s.1 s.2.1 s.2.2) (fun (y1234,y1235,y1236)=>mkSt [(3,.im (.ref (c_api_Mealy a_))),(4,.im (.ref (c_api_Mealy b_))),(8,.osl 144 1),(10,.osl 145 1),(11,.im (nI (↑i900:Int))),(12,.own 146 1 0),(55,.im (nI a_.Inputs)),(56,.im (nI (↑y1236:Int)))] [(144,.grid 85 4 1 (List.map (cL cB) y1234) none),(145,.row 170 3 (List.map c_equiv_place y1235)),(146,.box 153 2)] [(146,0,.im (nI e1104.at_.s)),(146,1,.im (nI e1104.at_.t))]) (fun (y1234,y1235,y1236)=>lZ y1234∧lZ y1235∧True) h (eA [(144,some 144),(145,some 145),(146,some 12)]) (by rintro ⟨y1234,y1235,y1236⟩;exact ((Holds.kdg 144 rfl).and ((Holds.kdl 145 rfl).and (hT)))) ?_
 clear h
 rintro k ⟨y1234,y1235,y1236⟩ o hp h ho1268
 replace h:equiv_search.s20 a_ b_ i900 e1104 y1234 y1235 y1236=some o:=h
 unfold equiv_search.s20 at h
 obtain ⟨z1300,z1301,_⟩:=hp
 conv=>whnf
 refine Both.mk ?_ ?_<;>intro b1269
 obtain ⟨h,b1269d⟩:=ctd b1269 h
 conv=>whnf
 refine Side.mk rfl ?_
 conv=>whnf
 refine Side.mk rfl ?_
 conv=>whnf
 obtain ⟨e1270,he1270z,he1270,h⟩:=idx_some h
 refine ⟨_,⟨he1270z,map_at he1270,rfl⟩,?_⟩
 conv=>whnf
 obtain ⟨e1271,he1271,h⟩:=idxn_some h
 refine ⟨_,⟨(by omega),map_at he1271,rfl⟩,?_⟩
 conv=>whnf
 refine Side.mk rfl ?_
 conv=>whnf
 refine Side.mk rfl ?_
 conv=>whnf
 obtain ⟨e1272,he1272z,he1272,h⟩:=idx_some h
 refine ⟨_,⟨he1272z,map_at he1272,rfl⟩,?_⟩
 conv=>whnf
 obtain ⟨e1273,he1273,h⟩:=idxn_some h
 refine ⟨_,⟨(by omega),map_at he1273,rfl⟩,?_⟩
 conv=>whnf
 refine Both.mk ?_ ?_<;>intro b1274
 obtain ⟨h,b1274d⟩:=ctd b1274 h
 conv=>whnf
 obtain ⟨e1275,he1275,h⟩:=idxn_some h
 refine Side.mk ⟨(by omega),rfl,map_lt he1275⟩ ?_
 conv=>whnf
 refine Side.mk rfl ?_
 conv=>whnf
 refine ⟨_,_,⟨rfl,map_at he1275,rfl,rfl⟩,?_⟩
 conv=>whnf
 obtain ⟨c1276,hc1276,h⟩:=bind_some h
 refine ⟨_,(sp_word_Join [e1275.word,[(↑y1236:Int)]] c1276 (fun _=>hc1276)),?_⟩
 conv=>whnf
 cases h
 have ho1268:_=_:=ho1268
 cases ho1268
 replace h:some _=some _:=hk1105
 cases h
 have ho1102:_=_:=ho1102
 cases ho1102
 replace h:some _=some _:=hk87
 cases h
 conv=>whnf
 exact ⟨rfl,rfl⟩
 obtain ⟨h,b1274d⟩:=cfd b1274 h
 conv=>whnf
 refine Side.mk rfl ?_
 conv=>whnf
 refine Side.mk rfl ?_
 conv=>whnf
 obtain ⟨e1277,he1277z,he1277,h⟩:=idx_some h
 refine ⟨_,⟨he1277z,map_at he1277,rfl⟩,?_⟩
 conv=>whnf
 obtain ⟨e1278,he1278,h⟩:=idxn_some h
 refine ⟨_,⟨(by omega),map_at he1278,rfl⟩,?_⟩
 conv=>whnf
 refine Side.mk rfl ?_
 conv=>whnf
 refine Side.mk rfl ?_
 conv=>whnf
 obtain ⟨e1279,he1279z,he1279,h⟩:=idx_some h
 refine ⟨_,⟨he1279z,map_at he1279,rfl⟩,?_⟩
 conv=>whnf
 obtain ⟨e1280,he1280,h⟩:=idxn_some h
 refine ⟨_,⟨(by omega),map_at he1280,rfl⟩,?_⟩
 conv=>whnf
 refine Side.mk rfl ?_
 conv=>whnf
 obtain ⟨y1286,hc,hk1282⟩:=bind_some h
 clear h
 have h:=hc
 clear hc
 refine Cut.mk (mkSt [(3,.im (.ref (c_api_Mealy a_))),(4,.im (.ref (c_api_Mealy b_))),(8,.osl 144 1),(10,.osl 145 1),(11,.im (nI (↑i900:Int))),(12,.own 146 1 0),(13,.im (nI (↑y1236:Int))),(14,.own 147 1 0),(55,.im (nI a_.Inputs)),(56,.im (nI (↑y1236:Int))),(120,.im (nB y1286))] [(144,.grid 85 4 1 (List.map (cL cB) y1234) none),(145,.row 170 3 (List.map c_equiv_place y1235)),(146,.box 153 2),(147,.box 153 2)] [(146,0,.im (nI e1104.at_.s)),(146,1,.im (nI e1104.at_.t)),(147,0,.im (nI e1278)),(147,1,.im (nI e1280))]) (lZ y1234∧lZ y1235∧True) ((Holds.kdg 144 rfl).and ((Holds.kdl 145 rfl).and (hT))) ?_ (fun hp=>?_)
 conv=>whnf
 refine Side.mk rfl ?_
 conv=>whnf
 refine Side.mk rfl ?_
 conv=>whnf
 refine Side.mk (by kernel_rfl) ?_
 conv=>whnf
 refine Nf.mk (decide (e1278=e1104.at_.s)&&(decide (e1280=e1104.at_.t)&&true)) rfl ?_
 conv=>whnf
 refine Both.mk ?_ ?_<;>intro b1287
 replace b1287:=beq_tt b1287
 replace h:=cond_t b1287 h
 conv=>whnf
 refine Both.yes (tt_beq b1287) ?_
 conv=>whnf
 refine Side.mk rfl ?_
 conv=>whnf
 refine Both.yes (tt_beq b1287) ?_
 conv=>whnf
 refine Side.mk rfl ?_
 conv=>whnf
 refine Both.yes (tt_beq b1287) ?_
 conv=>whnf
 obtain ⟨e1288,he1288z,he1288,h⟩:=idx_some h
 refine Side.mk ⟨he1288z,rfl,map_lt he1288⟩ ?_
 conv=>whnf
 refine Both.yes (tt_beq b1287) ?_
 conv=>whnf
 refine Side.mk ⟨rfl,map_lt he1288⟩ ?_
 conv=>whnf
 refine Both.yes (tt_beq b1287) ?_
 conv=>whnf
 refine Side.mk rfl ?_
 conv=>whnf
 refine Both.yes (tt_beq b1287) ?_
 conv=>whnf
 refine Side.mk rfl ?_
 conv=>whnf
 refine Both.yes (tt_beq b1287) ?_
 conv=>whnf
 obtain ⟨e1289,he1289z,he1289,h⟩:=idx_some h
 refine ⟨_,⟨he1289z,rfl,map_at he1288,map_lt he1289⟩,?_⟩
 conv=>whnf
 refine Both.yes (tt_beq b1287) ?_
 conv=>whnf
 refine ⟨_,_,_,⟨rfl,map_at he1288,map_at he1289,rfl⟩,?_⟩
 conv=>whnf
 refine Both.yes (tt_beq b1287) ?_
 conv=>whnf
 refine Both.yes b1287 ?_
 conv=>whnf
 cases h
 exact Join.mk (eA [(144,some 144),(145,some 145),(146,some 146),(147,some 14)])
 replace b1287:=beq_tf b1287
 replace h:=cond_f b1287 h
 conv=>whnf
 iterate 9 (refine Both.no (ft_beq b1287) ?_;(conv=>whnf))
 refine Both.no b1287 ?_
 conv=>whnf
 cases h
 exact Join.mk (eA [(144,some 144),(145,some 145),(146,some 146),(147,some 14)])
 replace h:=hk1282
 obtain ⟨z1290,z1291,_⟩:=hp
 conv=>whnf
 refine Both.mk ?_ ?_<;>intro b1292
 replace h:=cond_t b1292 h
 conv=>whnf
 refine Side.mk rfl ?_
 conv=>whnf
 refine Side.mk rfl ?_
 conv=>whnf
 obtain ⟨e1293,he1293z,he1293,h⟩:=idx_some h
 refine Side.mk ⟨he1293z,rfl,map_lt he1293⟩ ?_
 conv=>whnf
 refine Side.mk ⟨rfl,map_lt he1293⟩ ?_
 conv=>whnf
 refine Side.mk rfl ?_
 conv=>whnf
 refine Side.mk rfl ?_
 conv=>whnf
 obtain ⟨e1294,he1294z,he1294,h⟩:=idx_some h
 refine ⟨_,⟨he1294z,rfl,map_at he1293,map_lt he1294⟩,?_⟩
 conv=>whnf
 refine ⟨_,_,⟨rfl,map_at he1293,map_at he1294⟩,?_⟩
 conv=>whnf
 refine Nf.mk (List.map (cL cB) (List.set y1234 (Int.toNat e1278) (List.set e1293 (Int.toNat e1280) true))) (set_grid2 rfl) ?_
 conv=>whnf
 refine Side.mk rfl ?_
 conv=>whnf
 obtain ⟨e1295,he1295,h⟩:=idxn_some h
 refine Side.mk ⟨(by omega),rfl,map_lt he1295⟩ ?_
 conv=>whnf
 refine Side.mk rfl ?_
 conv=>whnf
 refine ⟨_,_,⟨rfl,map_at he1295,rfl,rfl⟩,?_⟩
 conv=>whnf
 obtain ⟨c1296,hc1296,h⟩:=bind_some h
 refine ⟨_,(sp_word_Join [e1295.word,[(↑y1236:Int)]] c1296 (fun _=>hc1296)),?_⟩
 conv=>whnf
 obtain ⟨c1297,h⟩:=chk_some h
 refine Side.mk ⟨rfl,map_len (l:=[(⟨(⟨e1278,e1280⟩:T_equiv_pair),c1296⟩:T_equiv_place)]) (c:=c_equiv_place) fun _=>rfl,show capOk _ 40 by simpa only [List.length_map,List.length_cons,List.length_nil,Nat.zero_add] using c1297⟩ ?_
 conv=>whnf
 refine Nf.mk (List.map c_equiv_place (y1235++[(⟨(⟨e1278,e1280⟩:T_equiv_pair),c1296⟩:T_equiv_place)])) (app_map (l:=y1235) (m:=[(⟨(⟨e1278,e1280⟩:T_equiv_pair),c1296⟩:T_equiv_place)]) (c:=c_equiv_place)) ?_
 conv=>whnf
 obtain ⟨c1298,h⟩:=chk_some h
 refine Arith.mk c1298 ?_
 conv=>whnf
 cases h
 exact Nxt.mk _ ho1268 (eA [(144,some 144),(145,some 145),(146,some 146)])
 replace h:=cond_f b1292 h
 conv=>whnf
 obtain ⟨c1299,h⟩:=chk_some h
 refine Arith.mk c1299 ?_
 conv=>whnf
 cases h
 exact Nxt.mk _ ho1268 (eA [(144,some 144),(145,some 145),(146,some 146)])
 obtain ⟨h,b1269d⟩:=cfd b1269 h
 conv=>whnf
 cases h
 have ho1268:_=_:=ho1268
 cases ho1268
 exact JoinS.mk' _ rfl (eA [(144,some 144),(145,some 145)])
 rintro ⟨y1203,y1204⟩ rfl hp
 have hx_:=sum_inl hk1105
 replace h:equiv_search.k21 i900 y1203 y1204=some _:=hx_
 clear hx_
 unfold equiv_search.k21 at h
 obtain ⟨z1302,z1303,_⟩:=hp
 conv=>whnf
 refine Arith.mk (by show inR _;unfold inR;omega) ?_
 conv=>whnf
 cases h
 exact Nxt.mk _ ho1102 (eA [(144,some 144),(145,some 145)])
 obtain ⟨h,b1103d⟩:=cfd b1103 h
 conv=>whnf
 cases h
 have ho1102:_=_:=ho1102
 cases ho1102
 exact JoinS.mk' _ rfl (eA [])
 rintro ⟨⟩ rfl hp
 replace h:=sum_inl hk87
 conv=>whnf
 cases h
 conv=>whnf
 exact ⟨rfl,rfl⟩
theorem sp_equiv_States (m_:T_api_Mealy) (s_:Int) (t_:Int) (r:List Int×Bool×Int) (h:Ok (.agg (c_api_Mealy m_))→Ok (nI s_)→Ok (nI t_)→equiv_States m_ s_ t_=some r):Sp Tryz.prog 92 [.im (.agg (c_api_Mealy m_)),.im (nI s_),.im (nI t_)] (.tup [nL cI r.1,nB r.2.1,nI r.2.2]):=by
 refine sp_of rfl [700003] rfl rfl rfl (Nat.le_of_ble_eq_true rfl) rfl fun hk=>?_
 replace h:=h hk.1 hk.2.1 hk.2.2.1
 have z1:lZ m_.Next:=ok_len (Ok.agg_at hk.1 2 rfl)
 have z2:lZ m_.Out:=ok_len (Ok.agg_at hk.1 3 rfl)
 unfold equiv_States at h
 conv=>whnf
 obtain ⟨c51,hc51,h⟩:=bind_some h
 refine ⟨_,(sp_mealy_Valid m_ c51 (fun _=>hc51)),?_⟩
 conv=>whnf
 refine Both.mk ?_ ?_<;>intro b52
 obtain ⟨h,b52d⟩:=ctd b52 h
 conv=>whnf
 cases h
 conv=>whnf
 exact ⟨rfl,rfl⟩
 obtain ⟨h,b52d⟩:=cfd b52 h
 conv=>whnf
 obtain ⟨y58,hc,hk54⟩:=bind_some h
 clear h
 have h:=hc
 clear hc
 refine Cut.mk (mkSt [(1,.im (nI s_)),(2,.im (nI t_)),(3,.im (.ref (c_api_Mealy m_))),(36,.im (nB y58))] [] []) (True) (hT) ?_ (fun hp=>?_)
 conv=>whnf
 refine Both.mk ?_ ?_<;>intro b59
 replace b59:=beq_ff b59
 obtain ⟨h,b59d⟩:=cfd b59 h
 conv=>whnf
 iterate 3 (refine Both.yes (ff_beq b59) ?_;(conv=>whnf))
 refine Nf.mk (List.length m_.Next) len_map ?_
 conv=>whnf
 refine Both.yes (ff_beq b59) ?_
 conv=>whnf
 refine Both.no b59 ?_
 conv=>whnf
 refine Both.mk ?_ ?_<;>intro b60
 replace b60:=beq_ff b60
 obtain ⟨h,b60d⟩:=cfd b60 h
 conv=>whnf
 refine Both.yes (ff_beq b60) ?_
 conv=>whnf
 refine Both.no b60 ?_
 conv=>whnf
 refine Both.mk ?_ ?_<;>intro b61
 replace b61:=beq_ff b61
 obtain ⟨h,b61d⟩:=cfd b61 h
 conv=>whnf
 iterate 3 (refine Both.yes (ff_beq b61) ?_;(conv=>whnf))
 refine Nf.mk (List.length m_.Next) len_map ?_
 conv=>whnf
 refine Both.yes (ff_beq b61) ?_
 conv=>whnf
 refine Both.no b61 ?_
 conv=>whnf
 cases h
 exact Join.mk (eA [])
 replace b61:=beq_ft b61
 obtain ⟨h,b61d⟩:=ctd b61 h
 conv=>whnf
 iterate 4 (refine Both.no (tf_beq b61) ?_;(conv=>whnf))
 refine Both.yes b61 ?_
 conv=>whnf
 cases h
 exact Join.mk (eA [])
 replace b60:=beq_ft b60
 obtain ⟨h,b60d⟩:=ctd b60 h
 conv=>whnf
 refine Both.no (tf_beq b60) ?_
 conv=>whnf
 refine Both.yes b60 ?_
 conv=>whnf
 iterate 5 (refine Both.no rfl ?_;(conv=>whnf))
 refine Both.yes rfl ?_
 conv=>whnf
 cases h
 exact Join.mk (eA [])
 replace b59:=beq_ft b59
 obtain ⟨h,b59d⟩:=ctd b59 h
 conv=>whnf
 iterate 4 (refine Both.no (tf_beq b59) ?_;(conv=>whnf))
 refine Both.yes b59 ?_
 conv=>whnf
 iterate 2 (refine Both.no rfl ?_;(conv=>whnf))
 refine Both.yes rfl ?_
 conv=>whnf
 iterate 5 (refine Both.no rfl ?_;(conv=>whnf))
 refine Both.yes rfl ?_
 conv=>whnf
 cases h
 exact Join.mk (eA [])
 replace h:=hk54
 conv=>whnf
 refine Both.mk ?_ ?_<;>intro b62
 replace h:=cond_t b62 h
 conv=>whnf
 cases h
 conv=>whnf
 exact ⟨rfl,rfl⟩
 replace h:=cond_f b62 h
 conv=>whnf
 obtain ⟨c63,hc63,h⟩:=bind_some h
 refine ⟨_,(sp_equiv_search m_ m_ (⟨s_,t_⟩:T_equiv_pair) c63 (fun _ _ _=>hc63)),?_⟩
 conv=>whnf
 cases h
 conv=>whnf
 exact ⟨rfl,rfl⟩
theorem sp_separate_Charset (m_:T_api_Mealy) (r:List (List Int)×Int) (h:Ok (.agg (c_api_Mealy m_))→separate_Charset m_=some r):Sp Tryz.prog 58 [.im (.agg (c_api_Mealy m_))] (.tup [nL (cL cI) r.1,nI r.2]):=by
 refine sp_of rfl [500035,700001] rfl rfl rfl (Nat.le_of_ble_eq_true rfl) rfl fun hk=>?_
 replace h:=h hk.1
 have z1:lZ m_.Next:=ok_len (Ok.agg_at hk.1 2 rfl)
 have z2:lZ m_.Out:=ok_len (Ok.agg_at hk.1 3 rfl)
 unfold separate_Charset at h
 conv=>whnf
 obtain ⟨c51,hc51,h⟩:=bind_some h
 refine ⟨_,(sp_separate_check m_ c51 (fun _=>hc51)),?_⟩
 conv=>whnf
 refine Both.mk ?_ ?_<;>intro b52
 obtain ⟨h,b52d⟩:=ctd b52 h
 conv=>whnf
 cases h
 conv=>whnf
 exact ⟨rfl,rfl⟩
 obtain ⟨h,b52d⟩:=cfd b52 h
 conv=>whnf
 refine Nf.mk (List.length m_.Next) len_map ?_
 conv=>whnf
 obtain ⟨oc,hc,hk53⟩:=bind_some h
 clear h
 have h:=hc
 clear hc
 refine Cut.mkS oc (Y:=List (List Int)) (fun y342=>mkSt [(5,.osl 64 1)] [(64,.row 25 1 (List.map (cL cI) y342))] []) (fun y342=>lZ y342∧True) (by rintro y342;exact ((Holds.kdl 64 rfl).and (hT))) ?_ ?_
 conv=>whnf
 refine Loops.iter (fun (s:List (List Int)×Nat)=>separate_Charset.s14 m_ s.1 s.2) (fun (y435,y436)=>mkSt [(1,.im (.ref (c_api_Mealy m_))),(5,.osl 64 1),(18,.im (nI (↑(List.length m_.Next):Int))),(19,.im (nI (↑y436:Int)))] [(64,.row 25 1 (List.map (cL cI) y435))] []) (fun (y435,y436)=>lZ y435∧True) h (eA [(64,none)]) (by rintro ⟨y435,y436⟩;exact ((Holds.kdl 64 rfl).and (hT))) ?_
 clear h
 rintro k ⟨y435,y436⟩ o hp h ho533
 replace h:separate_Charset.s14 m_ y435 y436=some o:=h
 unfold separate_Charset.s14 at h
 obtain ⟨z630,_⟩:=hp
 conv=>whnf
 refine Both.mk ?_ ?_<;>intro b534
 obtain ⟨h,b534d⟩:=ctd b534 h
 conv=>whnf
 refine Arith.mk (by show inR _;unfold inR;omega) ?_
 conv=>whnf
 obtain ⟨oc,hc,hk535⟩:=bind_some h
 clear h
 have h:=hc
 clear hc
 refine Cut.mkS oc (Y:=List (List Int)) (fun y582=>mkSt [(1,.im (.ref (c_api_Mealy m_))),(5,.osl 64 1),(18,.im (nI (↑(List.length m_.Next):Int))),(19,.im (nI (↑y436:Int)))] [(64,.row 25 1 (List.map (cL cI) y582))] []) (fun y582=>lZ y582∧True) (by rintro y582;exact ((Holds.kdl 64 rfl).and (hT))) ?_ ?_
 conv=>whnf
 refine Loops.iter (fun (s:List (List Int)×Nat)=>separate_Charset.s13 m_ y436 s.1 s.2) (fun (y597,t598)=>mkSt [(1,.im (.ref (c_api_Mealy m_))),(5,.osl 64 1),(6,.im (nI (↑y436:Int))),(7,.im (nI (↑t598:Int))),(18,.im (nI (↑(List.length m_.Next):Int))),(19,.im (nI (↑y436:Int)))] [(64,.row 25 1 (List.map (cL cI) y597))] []) (fun (y597,t598)=>lZ y597∧True) h (eA [(64,some 64)]) (by rintro ⟨y597,t598⟩;exact ((Holds.kdl 64 rfl).and (hT))) ?_
 clear h
 rintro k ⟨y597,t598⟩ o hp h ho613
 replace h:separate_Charset.s13 m_ y436 y597 t598=some o:=h
 unfold separate_Charset.s13 at h
 obtain ⟨z628,_⟩:=hp
 conv=>whnf
 refine Nf.mk (List.length m_.Next) len_map ?_
 conv=>whnf
 refine Both.mk ?_ ?_<;>intro b614
 obtain ⟨h,b614d⟩:=ctd b614 h
 conv=>whnf
 obtain ⟨oc,hc,hk615⟩:=bind_some h
 clear h
 have h:=hc
 clear hc
 refine Cut.mkS oc (Y:=List (List Int)) (fun y621=>mkSt [(1,.im (.ref (c_api_Mealy m_))),(5,.osl 64 1),(6,.im (nI (↑y436:Int))),(7,.im (nI (↑t598:Int))),(18,.im (nI (↑(List.length m_.Next):Int))),(19,.im (nI (↑y436:Int)))] [(64,.row 25 1 (List.map (cL cI) y621))] []) (fun y621=>lZ y621∧True) (by rintro y621;exact ((Holds.kdl 64 rfl).and (hT))) ?_ ?_
 conv=>whnf
 refine Side.mk ⟨rfl,trivial⟩ ?_
 conv=>whnf
 obtain ⟨c622,hc622,h⟩:=bind_some h
 refine ⟨_,(sp_separate_separated m_ y597 (↑y436:Int) (↑t598:Int) c622 (fun _ _ _ _=>hc622)),?_⟩
 conv=>whnf
 refine Side.mk flat_one ?_
 conv=>whnf
 refine Both.mk ?_ ?_<;>intro b623
 replace h:=cond_t b623 h
 conv=>whnf
 cases h
 exact JoinS.mk' _ rfl (eA [(64,some 64)])
 replace h:=cond_f b623 h
 conv=>whnf
 obtain ⟨c624,hc624,h⟩:=bind_some h
 refine ⟨_,(sp_equiv_States m_ (↑y436:Int) (↑t598:Int) c624 (fun _ _ _=>hc624)),?_⟩
 conv=>whnf
 refine Both.mk ?_ ?_<;>intro b625
 obtain ⟨h,b625d⟩:=ctd b625 h
 conv=>whnf
 cases h
 replace h:some _=some _:=hk615
 cases h
 have ho613:_=_:=ho613
 cases ho613
 replace h:some _=some _:=hk535
 cases h
 have ho533:_=_:=ho533
 cases ho533
 replace h:some _=some _:=hk53
 cases h
 conv=>whnf
 exact ⟨rfl,rfl⟩
 obtain ⟨h,b625d⟩:=cfd b625 h
 conv=>whnf
 obtain ⟨c626,h⟩:=chk_some h
 refine Side.mk ⟨rfl,map_len (l:=[c624.1]) (c:=cL cI) fun _=>rfl,show capOk _ 24 by simpa only [List.length_map,List.length_cons,List.length_nil,Nat.zero_add] using c626⟩ ?_
 conv=>whnf
 refine Nf.mk (List.map (cL cI) (y597++[c624.1])) (app_map (l:=y597) (m:=[c624.1]) (c:=cL cI)) ?_
 conv=>whnf
 cases h
 exact JoinS.mk' _ rfl (eA [(64,some 64)])
 rintro y621 rfl hp
 replace h:=sum_inl hk615
 obtain ⟨z627,_⟩:=hp
 conv=>whnf
 refine Arith.mk (by show inR _;unfold inR;omega) ?_
 conv=>whnf
 cases h
 exact Nxt.mk _ ho613 (eA [(64,some 64)])
 obtain ⟨h,b614d⟩:=cfd b614 h
 conv=>whnf
 cases h
 have ho613:_=_:=ho613
 cases ho613
 exact JoinS.mk' _ rfl (eA [(64,some 64)])
 rintro y582 rfl hp
 replace h:=sum_inl hk535
 obtain ⟨z629,_⟩:=hp
 conv=>whnf
 refine Arith.mk (by show inR _;unfold inR;omega) ?_
 conv=>whnf
 cases h
 exact Nxt.mk _ ho533 (eA [(64,some 64)])
 obtain ⟨h,b534d⟩:=cfd b534 h
 conv=>whnf
 cases h
 have ho533:_=_:=ho533
 cases ho533
 exact JoinS.mk' _ rfl (eA [(64,some 64)])
 rintro y342 rfl hp
 replace h:=sum_inl hk53
 obtain ⟨z631,_⟩:=hp
 conv=>whnf
 refine Side.mk ⟨rfl,trivial⟩ ?_
 conv=>whnf
 obtain ⟨c632,hc632,h⟩:=bind_some h
 refine ⟨_,(sp_wordset_Sorted y342 c632 (fun _=>hc632)).im,?_⟩
 conv=>whnf
 cases h
 conv=>whnf
 exact ⟨rfl,rfl⟩
theorem sp_merge_Sample (m_:T_api_Mealy) (r:List (List Int)×Int) (h:Ok (.agg (c_api_Mealy m_))→merge_Sample m_=some r):Sp Tryz.prog 29 [.im (.agg (c_api_Mealy m_))] (.tup [nL (cL cI) r.1,nI r.2]):=by
 refine sp_of rfl [700001] rfl rfl rfl (Nat.le_of_ble_eq_true rfl) rfl fun hk=>?_
 replace h:=h hk.1
 have z1:lZ m_.Next:=ok_len (Ok.agg_at hk.1 2 rfl)
 have z2:lZ m_.Out:=ok_len (Ok.agg_at hk.1 3 rfl)
 unfold merge_Sample at h
 conv=>whnf
 obtain ⟨c51,hc51,h⟩:=bind_some h
 refine ⟨_,(sp_mealy_Valid m_ c51 (fun _=>hc51)),?_⟩
 conv=>whnf
 refine Both.mk ?_ ?_<;>intro b52
 obtain ⟨h,b52d⟩:=ctd b52 h
 conv=>whnf
 cases h
 conv=>whnf
 exact ⟨rfl,rfl⟩
 obtain ⟨h,b52d⟩:=cfd b52 h
 conv=>whnf
 obtain ⟨c53,hc53,h⟩:=bind_some h
 refine ⟨_,(sp_minimize_Min m_ c53 (fun _=>hc53)),?_⟩
 conv=>whnf
 refine Side.mk rfl ?_
 conv=>whnf
 refine Side.mk rfl ?_
 conv=>whnf
 obtain ⟨c54,hc54,h⟩:=bind_some h
 refine ⟨_,(sp_cover_StateCover c53.1 c54 (fun _=>hc54)),?_⟩
 conv=>whnf
 refine Side.mk rfl ?_
 conv=>whnf
 obtain ⟨c55,hc55,h⟩:=bind_some h
 refine ⟨_,(sp_cover_Transitions c53.1 c55 (fun _=>hc55)),?_⟩
 conv=>whnf
 refine Side.mk rfl ?_
 conv=>whnf
 obtain ⟨c56,hc56,h⟩:=bind_some h
 refine ⟨_,(sp_separate_Charset c53.1 c56 (fun _=>hc56)),?_⟩
 conv=>whnf
 obtain ⟨ends60,hc,hk58⟩:=bind_some h
 clear h
 have h:=hc
 clear hc
 refine Cut.mk (mkSt [(7,.im (nL (cL cI) c54.1)),(9,.im (nL (cL cI) c55.1)),(11,.im (nL (cL cI) ends60))] [] []) (lZ c54.1∧lZ c55.1∧lZ ends60∧True) ((Holds.avl 7 rfl).and ((Holds.avl 9 rfl).and ((Holds.avl 11 rfl).and (hT)))) ?_ (fun hp=>?_)
 conv=>whnf
 refine Nf.mk (List.length c56.1) len_map ?_
 conv=>whnf
 refine Both.mk ?_ ?_<;>intro b61
 obtain ⟨h,b61d⟩:=ctd b61 h
 conv=>whnf
 cases h
 exact Join.mk (eA [])
 obtain ⟨h,b61d⟩:=cfd b61 h
 conv=>whnf
 cases h
 exact Join.mk (eA [])
 replace h:=hk58
 obtain ⟨z62,z63,z64,_⟩:=hp
 conv=>whnf
 obtain ⟨c65,hc65,h⟩:=bind_some h
 refine ⟨_,(sp_wordset_Union [c54.1,c55.1] c65 (fun _=>hc65)),?_⟩
 conv=>whnf
 obtain ⟨c66,hc66,h⟩:=bind_some h
 refine ⟨_,(sp_wordset_Product c65 ends60 c66 (fun _ _=>hc66)),?_⟩
 conv=>whnf
 refine Both.mk ?_ ?_<;>intro b67
 obtain ⟨h,b67d⟩:=ctd b67 h
 conv=>whnf
 cases h
 conv=>whnf
 exact ⟨rfl,rfl⟩
 obtain ⟨h,b67d⟩:=cfd b67 h
 conv=>whnf
 obtain ⟨c68,hc68,h⟩:=bind_some h
 refine ⟨_,(sp_wordset_Union [c55.1,c66.1] c68 (fun _=>hc68)),?_⟩
 conv=>whnf
 obtain ⟨c69,hc69,h⟩:=bind_some h
 refine ⟨_,(sp_wordset_Maximal c68 c69 (fun _=>hc69)),?_⟩
 conv=>whnf
 cases h
 conv=>whnf
 exact ⟨rfl,rfl⟩
theorem sp_merge_Complete (p_:T_api_Part) (out_:Int) (r:T_api_Mealy×Int) (h:Ok (.agg (c_api_Part p_))→Ok (nI out_)→merge_Complete p_ out_=some r):Sp Tryz.prog 13 [.im (.agg (c_api_Part p_)),.im (nI out_)] (.tup [.agg (c_api_Mealy r.1),nI r.2]):=by
 refine sp_of rfl [700002] rfl rfl rfl (Nat.le_of_ble_eq_true rfl) rfl fun hk=>?_
 replace h:=h hk.1 hk.2.1
 have z1:lZ p_.Next:=ok_len (Ok.agg_at hk.1 2 rfl)
 have z2:lZ p_.Out:=ok_len (Ok.agg_at hk.1 3 rfl)
 unfold merge_Complete at h
 conv=>whnf
 obtain ⟨c51,hc51,h⟩:=bind_some h
 refine ⟨_,(sp_merge_Valid p_ c51 (fun _=>hc51)),?_⟩
 conv=>whnf
 refine Both.mk ?_ ?_<;>intro b52
 obtain ⟨h,b52d⟩:=ctd b52 h
 conv=>whnf
 refine Side.mk rfl ?_
 conv=>whnf
 cases h
 conv=>whnf
 refine Side.mk ⟨rfl,trivial⟩ ?_
 conv=>whnf
 exact ⟨rfl,rfl⟩
 obtain ⟨h,b52d⟩:=cfd b52 h
 conv=>whnf
 obtain ⟨y56,hc,hk54⟩:=bind_some h
 clear h
 have h:=hc
 clear hc
 refine Cut.mk (mkSt [(1,.im (nI out_)),(2,.im (.ref (c_api_Part p_))),(4,.own 99 1 0),(24,.im (nB y56))] [(99,.box 37 4)] [(99,0,.im (nI 0)),(99,1,.im (nI 0)),(99,2,.im (.val (.slice none 0 0))),(99,3,.im (.val (.slice none 0 0)))]) (True) (hT) ?_ (fun hp=>?_)
 conv=>whnf
 refine Both.mk ?_ ?_<;>intro b57
 replace b57:=beq_ff b57
 obtain ⟨h,b57d⟩:=cfd b57 h
 conv=>whnf
 refine Both.yes (ff_beq b57) ?_
 conv=>whnf
 refine Both.no b57 ?_
 conv=>whnf
 cases h
 exact Join.mk (eA [(99,some 4)])
 replace b57:=beq_ft b57
 obtain ⟨h,b57d⟩:=ctd b57 h
 conv=>whnf
 refine Both.no (tf_beq b57) ?_
 conv=>whnf
 refine Both.yes b57 ?_
 conv=>whnf
 cases h
 exact Join.mk (eA [(99,some 4)])
 replace h:=hk54
 conv=>whnf
 refine Both.mk ?_ ?_<;>intro b58
 replace h:=cond_t b58 h
 conv=>whnf
 refine Side.mk rfl ?_
 conv=>whnf
 cases h
 conv=>whnf
 refine Side.mk ⟨rfl,trivial⟩ ?_
 conv=>whnf
 exact ⟨rfl,rfl⟩
 replace h:=cond_f b58 h
 conv=>whnf
 refine Nf.mk (List.length p_.Next) len_map ?_
 conv=>whnf
 refine Both.mk ?_ ?_<;>intro b59
 obtain ⟨h,b59d⟩:=ctd b59 h
 conv=>whnf
 refine Side.mk rfl ?_
 conv=>whnf
 cases h
 conv=>whnf
 refine Side.mk ⟨rfl,trivial⟩ ?_
 conv=>whnf
 exact ⟨rfl,rfl⟩
 obtain ⟨h,b59d⟩:=cfd b59 h
 conv=>whnf
 refine Side.mk rfl ?_
 conv=>whnf
 refine Nf.mk (List.length p_.Next) len_map ?_
 conv=>whnf
 obtain ⟨⟨y314,y315⟩,hc,hk60⟩:=bind_some h
 clear h
 have h:=hc
 clear hc
 refine Cut.mk (mkSt [(4,.own 99 1 0),(7,.own 100 1 0)] [(99,.box 37 4),(100,.box 37 4),(101,.row 25 1 (List.map (cL cI) y314)),(102,.row 25 1 (List.map (cL cI) y315))] [(99,0,.im (nI 0)),(99,1,.im (nI 0)),(99,2,.im (.val (.slice none 0 0))),(99,3,.im (.val (.slice none 0 0))),(100,0,.im (nI p_.Inputs)),(100,1,.im (nI p_.Start)),(100,2,.osl 101 1),(100,3,.osl 102 1)]) (lZ y314∧lZ y315∧True) ((Holds.kdl 101 rfl).and ((Holds.kdl 102 rfl).and (hT))) ?_ (fun hp=>?_)
 conv=>whnf
 refine Loops.iter (fun (s:List (List Int)×List (List Int)×Nat)=>merge_Complete.s20 p_ out_ s.1 s.2.1 s.2.2) (fun (y393,y394,y395)=>mkSt [(1,.im (nI out_)),(2,.im (.ref (c_api_Part p_))),(4,.own 99 1 0),(7,.own 100 1 0),(38,.im (nI (↑(List.length p_.Next):Int))),(39,.im (nI (↑y395:Int)))] [(99,.box 37 4),(100,.box 37 4),(101,.row 25 1 (List.map (cL cI) y393)),(102,.row 25 1 (List.map (cL cI) y394))] [(99,0,.im (nI 0)),(99,1,.im (nI 0)),(99,2,.im (.val (.slice none 0 0))),(99,3,.im (.val (.slice none 0 0))),(100,0,.im (nI p_.Inputs)),(100,1,.im (nI p_.Start)),(100,2,.osl 101 1),(100,3,.osl 102 1)]) (fun (y393,y394,y395)=>lZ y393∧lZ y394∧True) h (Ent.mk [(99,some 99),(100,some 7),(101,none),(102,none)] rfl ⟨eI rfl rfl,eI rfl rfl,⟨.own 99 _ 0,rfl,.own rfl rfl rfl⟩,⟨.own 7 _ 0,rfl,.own rfl rfl rfl⟩,eI rfl rfl,eI rfl rfl,trivial⟩ ⟨.inl ⟨99,rfl,rfl,trivial⟩,.inl ⟨7,rfl,rfl,trivial⟩,.inr ⟨rfl,rfl,.inl ⟨_,_,rfl,by decide⟩⟩,.inr ⟨rfl,rfl,.inl ⟨_,_,rfl,by decide⟩⟩,trivial⟩ ⟨⟨99,.im _,rfl,rfl,.im (Sub.rfl' rfl)⟩,⟨99,.im _,rfl,rfl,.im (Sub.rfl' rfl)⟩,⟨99,.im (.val (.slice none 0 0)),rfl,rfl,.im (Sub.rfl' rfl)⟩,⟨99,.im (.val (.slice none 0 0)),rfl,rfl,.im (Sub.rfl' rfl)⟩,⟨7,.im _,rfl,rfl,.im (Sub.rfl' rfl)⟩,⟨7,.im _,rfl,rfl,.im (Sub.rfl' rfl)⟩,⟨7,.im (.val (.slice none 0 0)),rfl,rfl,.made rfl rfl⟩,⟨7,.im (.val (.slice none 0 0)),rfl,rfl,.made rfl rfl⟩,trivial⟩) (by rintro ⟨y393,y394,y395⟩;exact ((Holds.kdl 101 rfl).and ((Holds.kdl 102 rfl).and (hT)))) ?_
 clear h
 rintro k ⟨y393,y394,y395⟩ o hp h ho481
 replace h:merge_Complete.s20 p_ out_ y393 y394 y395=some o:=h
 unfold merge_Complete.s20 at h
 obtain ⟨z567,z568,_⟩:=hp
 conv=>whnf
 refine Both.mk ?_ ?_<;>intro b482
 obtain ⟨h,b482d⟩:=ctd b482 h
 conv=>whnf
 obtain ⟨c483,h⟩:=chk_some h
 refine Side.mk c483 ?_
 conv=>whnf
 refine Nf.mk (List.map cI (List.replicate (Int.toNat p_.Inputs) (0:Int))) (rep_map (c:=cI) (z:=0) (n:=(Int.toNat p_.Inputs)) rfl rfl) ?_
 conv=>whnf
 obtain ⟨c484,h⟩:=chk_some h
 refine Side.mk c484 ?_
 conv=>whnf
 refine Nf.mk (List.map cI (List.replicate (Int.toNat p_.Inputs) (0:Int))) (rep_map (c:=cI) (z:=0) (n:=(Int.toNat p_.Inputs)) rfl rfl) ?_
 conv=>whnf
 obtain ⟨e485,he485,h⟩:=idxn_some h
 refine ⟨_,⟨(by omega),map_at he485,rfl⟩,?_⟩
 conv=>whnf
 refine Nf.mk (List.length e485) len_map ?_
 conv=>whnf
 obtain ⟨⟨y523,y524⟩,hc,hk486⟩:=bind_some h
 clear h
 have h:=hc
 clear hc
 refine Cut.mk (mkSt [(1,.im (nI out_)),(2,.im (.ref (c_api_Part p_))),(4,.own 99 1 0),(7,.own 100 1 0),(9,.osl 103 1),(10,.osl 104 1),(38,.im (nI (↑(List.length p_.Next):Int))),(39,.im (nI (↑y395:Int)))] [(99,.box 37 4),(100,.box 37 4),(101,.row 25 1 (List.map (cL cI) y393)),(102,.row 25 1 (List.map (cL cI) y394)),(103,.row 3 1 (List.map cI y523)),(104,.row 3 1 (List.map cI y524))] [(99,0,.im (nI 0)),(99,1,.im (nI 0)),(99,2,.im (.val (.slice none 0 0))),(99,3,.im (.val (.slice none 0 0))),(100,0,.im (nI p_.Inputs)),(100,1,.im (nI p_.Start)),(100,2,.osl 101 1),(100,3,.osl 102 1)]) (lZ y393∧lZ y394∧lZ y523∧lZ y524∧True) ((Holds.kdl 101 rfl).and ((Holds.kdl 102 rfl).and ((Holds.kdl 103 rfl).and ((Holds.kdl 104 rfl).and (hT))))) ?_ (fun hp=>?_)
 conv=>whnf
 refine Loops.iter (fun (s:List Int×List Int×Nat)=>merge_Complete.s18 p_ out_ y395 e485 s.1 s.2.1 s.2.2) (fun (y534,y535,y536)=>mkSt [(1,.im (nI out_)),(2,.im (.ref (c_api_Part p_))),(4,.own 99 1 0),(7,.own 100 1 0),(8,.im (nI (↑y395:Int))),(9,.osl 103 1),(10,.osl 104 1),(38,.im (nI (↑(List.length p_.Next):Int))),(39,.im (nI (↑y395:Int))),(52,.im (nL cI e485)),(53,.im (nI (↑(List.length e485):Int))),(54,.im (nI (↑y536:Int)))] [(99,.box 37 4),(100,.box 37 4),(101,.row 25 1 (List.map (cL cI) y393)),(102,.row 25 1 (List.map (cL cI) y394)),(103,.row 3 1 (List.map cI y534)),(104,.row 3 1 (List.map cI y535))] [(99,0,.im (nI 0)),(99,1,.im (nI 0)),(99,2,.im (.val (.slice none 0 0))),(99,3,.im (.val (.slice none 0 0))),(100,0,.im (nI p_.Inputs)),(100,1,.im (nI p_.Start)),(100,2,.osl 101 1),(100,3,.osl 102 1)]) (fun (y534,y535,y536)=>lZ e485∧lZ y393∧lZ y394∧lZ y534∧lZ y535∧True) h (eA [(99,some 99),(100,some 100),(101,some 101),(102,some 102),(103,some 44),(104,some 47)]) (by rintro ⟨y534,y535,y536⟩;exact ((Holds.avl 52 rfl).and ((Holds.kdl 101 rfl).and ((Holds.kdl 102 rfl).and ((Holds.kdl 103 rfl).and ((Holds.kdl 104 rfl).and (hT))))))) ?_
 clear h
 rintro k ⟨y534,y535,y536⟩ o hp h ho546
 replace h:merge_Complete.s18 p_ out_ y395 e485 y534 y535 y536=some o:=h
 unfold merge_Complete.s18 at h
 obtain ⟨z556,z557,z558,z559,z560,_⟩:=hp
 conv=>whnf
 refine Both.mk ?_ ?_<;>intro b547
 obtain ⟨h,b547d⟩:=ctd b547 h
 conv=>whnf
 obtain ⟨e548,he548,h⟩:=idxn_some h
 refine ⟨_,⟨(by omega),map_at he548,rfl⟩,?_⟩
 conv=>whnf
 obtain ⟨e549,he549,h⟩:=idxn_some h
 refine ⟨_,⟨(by omega),map_at he549,rfl⟩,?_⟩
 conv=>whnf
 obtain ⟨e550,he550,h⟩:=idxn_some h
 refine ⟨_,⟨(by omega),map_at he550,rfl⟩,?_⟩
 conv=>whnf
 obtain ⟨e551,he551,h⟩:=idxn_some h
 refine Side.mk ⟨(by omega),rfl,map_lt he551⟩ ?_
 conv=>whnf
 refine Side.mk ⟨rfl,trivial⟩ ?_
 conv=>whnf
 refine ⟨_,map_at he551,?_⟩
 conv=>whnf
 refine Nf.mk (List.map cI (List.set y534 y536 e548)) (set_map rfl) ?_
 conv=>whnf
 obtain ⟨e552,he552,h⟩:=idxn_some h
 refine Side.mk ⟨(by omega),rfl,map_lt he552⟩ ?_
 conv=>whnf
 refine Side.mk ⟨rfl,trivial⟩ ?_
 conv=>whnf
 refine ⟨_,map_at he552,?_⟩
 conv=>whnf
 refine Nf.mk (List.map cI (List.set y535 y536 e550)) (set_map rfl) ?_
 conv=>whnf
 refine Both.mk ?_ ?_<;>intro b553
 obtain ⟨h,b553d⟩:=ctd b553 h
 conv=>whnf
 obtain ⟨e554,he554,h⟩:=idxn_some h
 refine Side.mk ⟨(by omega),rfl,map_lt he554⟩ ?_
 conv=>whnf
 refine Side.mk ⟨rfl,trivial⟩ ?_
 conv=>whnf
 refine ⟨_,map_at he554,?_⟩
 conv=>whnf
 refine Nf.mk (List.map cI (List.set (List.set y534 y536 e548) y536 (↑y395:Int))) (set_map rfl) ?_
 conv=>whnf
 obtain ⟨e555,he555,h⟩:=idxn_some h
 refine Side.mk ⟨(by omega),rfl,map_lt he555⟩ ?_
 conv=>whnf
 refine Side.mk ⟨rfl,trivial⟩ ?_
 conv=>whnf
 refine ⟨_,map_at he555,?_⟩
 conv=>whnf
 refine Nf.mk (List.map cI (List.set (List.set y535 y536 e550) y536 out_)) (set_map rfl) ?_
 conv=>whnf
 refine Arith.mk (by show inR _;unfold inR;omega) ?_
 conv=>whnf
 cases h
 exact Nxt.mk _ ho546 (eA [(99,some 99),(100,some 100),(101,some 101),(102,some 102),(103,some 103),(104,some 104)])
 obtain ⟨h,b553d⟩:=cfd b553 h
 conv=>whnf
 refine Arith.mk (by show inR _;unfold inR;omega) ?_
 conv=>whnf
 cases h
 exact Nxt.mk _ ho546 (eA [(99,some 99),(100,some 100),(101,some 101),(102,some 102),(103,some 103),(104,some 104)])
 obtain ⟨h,b547d⟩:=cfd b547 h
 conv=>whnf
 cases h
 have ho546:_=_:=ho546
 cases ho546
 exact Join.mk (eA [(99,some 99),(100,some 100),(101,some 101),(102,some 102),(103,some 103),(104,some 104)])
 replace h:merge_Complete.k19 y393 y394 y395 y523 y524=some _:=hk486
 unfold merge_Complete.k19 at h
 obtain ⟨z561,z562,z563,z564,_⟩:=hp
 conv=>whnf
 refine Side.mk rfl ?_
 conv=>whnf
 refine Side.mk rfl ?_
 conv=>whnf
 refine Side.mk ⟨rfl,trivial⟩ ?_
 conv=>whnf
 obtain ⟨c565,h⟩:=chk_some h
 refine Side.mk ⟨rfl,map_len (l:=[y523]) (c:=cL cI) fun _=>rfl,show capOk _ 24 by simpa only [List.length_map,List.length_cons,List.length_nil,Nat.zero_add] using c565⟩ ?_
 conv=>whnf
 refine Nf.mk (List.map (cL cI) (y393++[y523])) (app_map (l:=y393) (m:=[y523]) (c:=cL cI)) ?_
 conv=>whnf
 refine Side.mk rfl ?_
 conv=>whnf
 refine Side.mk rfl ?_
 conv=>whnf
 refine Side.mk ⟨rfl,trivial⟩ ?_
 conv=>whnf
 obtain ⟨c566,h⟩:=chk_some h
 refine Side.mk ⟨rfl,map_len (l:=[y524]) (c:=cL cI) fun _=>rfl,show capOk _ 24 by simpa only [List.length_map,List.length_cons,List.length_nil,Nat.zero_add] using c566⟩ ?_
 conv=>whnf
 refine Nf.mk (List.map (cL cI) (y394++[y524])) (app_map (l:=y394) (m:=[y524]) (c:=cL cI)) ?_
 conv=>whnf
 refine Side.mk rfl ?_
 conv=>whnf
 refine Side.mk rfl ?_
 conv=>whnf
 refine Side.mk rfl ?_
 conv=>whnf
 refine Side.mk rfl ?_
 conv=>whnf
 refine Arith.mk (by show inR _;unfold inR;omega) ?_
 conv=>whnf
 cases h
 exact Nxt.mk _ ho481 (eA [(99,some 99),(100,some 100),(101,some 101),(102,some 102)])
 obtain ⟨h,b482d⟩:=cfd b482 h
 conv=>whnf
 cases h
 have ho481:_=_:=ho481
 cases ho481
 exact Join.mk (eA [(99,some 99),(100,some 100),(101,some 101),(102,some 102)])
 replace h:merge_Complete.k21 p_ y314 y315=some _:=hk60
 unfold merge_Complete.k21 at h
 obtain ⟨z569,z570,_⟩:=hp
 conv=>whnf
 refine Side.mk rfl ?_
 conv=>whnf
 refine Side.mk rfl ?_
 conv=>whnf
 cases h
 conv=>whnf
 refine Side.mk ⟨rfl,trivial⟩ ?_
 conv=>whnf
 exact Side.mk ⟨rfl,rfl,trivial⟩ ⟨rfl,rfl⟩
theorem sp_R35_Same (a_:T_api_Part) (b_:T_api_Part) (r:Bool) (h:Ok (.agg (c_api_Part a_))→Ok (.agg (c_api_Part b_))→R35_Same a_ b_=some r):Sp Tryz.prog 18 [.im (.agg (c_api_Part a_)),.im (.agg (c_api_Part b_))] (.im (nB r)):=by
 refine sp_of rfl [700002,700003] rfl rfl rfl (Nat.le_of_ble_eq_true rfl) rfl fun hk=>?_
 replace h:=h hk.1 hk.2.1
 have z1:lZ a_.Next:=ok_len (Ok.agg_at hk.1 2 rfl)
 have z2:lZ a_.Out:=ok_len (Ok.agg_at hk.1 3 rfl)
 have z3:lZ b_.Next:=ok_len (Ok.agg_at hk.2.1 2 rfl)
 have z4:lZ b_.Out:=ok_len (Ok.agg_at hk.2.1 3 rfl)
 unfold R35_Same at h
 conv=>whnf
 obtain ⟨y58,hc,hk52⟩:=bind_some h
 clear h
 have h:=hc
 clear hc
 refine Cut.mk (mkSt [(4,.im (nB y58))] [] []) (True) (hT) ?_ (fun hp=>?_)
 conv=>whnf
 refine Both.mk ?_ ?_<;>intro b59
 replace b59:=beq_tt b59
 obtain ⟨h,b59d⟩:=ctd b59 h
 conv=>whnf
 iterate 4 (refine Both.yes (tt_beq b59) ?_;(conv=>whnf))
 refine Both.yes b59 ?_
 conv=>whnf
 refine Both.mk ?_ ?_<;>intro b60
 replace b60:=beq_tt b60
 obtain ⟨h,b60d⟩:=ctd b60 h
 conv=>whnf
 iterate 4 (refine Both.yes (tt_beq b60) ?_;(conv=>whnf))
 obtain ⟨c61,hc61,h⟩:=bind_some h
 refine ⟨_,(sp_R01_SameWords a_.Next b_.Next c61 (fun _ _=>hc61)),?_⟩
 conv=>whnf
 refine Both.yes b60 ?_
 conv=>whnf
 refine Both.mk ?_ ?_<;>intro b62
 replace b62:=beq_tt b62
 replace h:=cond_t b62 h
 conv=>whnf
 iterate 4 (refine Both.yes (tt_beq b62) ?_;(conv=>whnf))
 obtain ⟨c63,hc63,h⟩:=bind_some h
 refine ⟨_,(sp_R01_SameWords a_.Out b_.Out c63 (fun _ _=>hc63)),?_⟩
 conv=>whnf
 refine Both.yes b62 ?_
 conv=>whnf
 cases h
 exact Join.mk (eA [])
 replace b62:=beq_tf b62
 replace h:=cond_f b62 h
 conv=>whnf
 iterate 4 (refine Both.no (ft_beq b62) ?_;(conv=>whnf))
 refine Both.no b62 ?_
 conv=>whnf
 cases h
 exact Join.mk (eA [])
 replace b60:=beq_tf b60
 obtain ⟨h,b60d⟩:=cfd b60 h
 conv=>whnf
 iterate 4 (refine Both.no (ft_beq b60) ?_;(conv=>whnf))
 refine Both.no b60 ?_
 conv=>whnf
 iterate 6 (refine Both.no rfl ?_;(conv=>whnf))
 cases h
 exact Join.mk (eA [])
 replace b59:=beq_tf b59
 obtain ⟨h,b59d⟩:=cfd b59 h
 conv=>whnf
 iterate 4 (refine Both.no (ft_beq b59) ?_;(conv=>whnf))
 refine Both.no b59 ?_
 conv=>whnf
 iterate 12 (refine Both.no rfl ?_;(conv=>whnf))
 cases h
 exact Join.mk (eA [])
 replace h:=hk52
 conv=>whnf
 cases h
 conv=>whnf
 exact ⟨rfl,rfl⟩
theorem sp_L35_awake (r:Bool) (h:L35_awake=some r):Sp Tryz.prog 8 [] (.im (nB r)):=by
 refine sp_of rfl [] rfl rfl rfl (Nat.le_of_ble_eq_true rfl) rfl fun hk=>?_
 unfold L35_awake at h
 conv=>whnf
 refine Side.mk rfl ?_
 conv=>whnf
 refine Side.mk rfl ?_
 conv=>whnf
 obtain ⟨c51,hc51,h⟩:=bind_some h
 refine ⟨_,(sp_merge_Tree (⟨1,[(⟨[0,0],[1,2]⟩:T_api_Trace)]⟩:T_api_Obs) c51 (fun _=>hc51)),?_⟩
 conv=>whnf
 refine Side.mk rfl ?_
 conv=>whnf
 refine Side.mk rfl ?_
 conv=>whnf
 obtain ⟨c52,hc52,h⟩:=bind_some h
 refine ⟨_,(sp_merge_Fold c51.1 0 1 c52 (fun _ _ _=>hc52)),?_⟩
 conv=>whnf
 refine Side.mk rfl ?_
 conv=>whnf
 refine Side.mk rfl ?_
 conv=>whnf
 obtain ⟨c53,hc53,h⟩:=bind_some h
 refine ⟨_,(sp_merge_Fold c51.1 0 2 c53 (fun _ _ _=>hc53)),?_⟩
 conv=>whnf
 refine Side.mk rfl ?_
 conv=>whnf
 obtain ⟨c54,hc54,h⟩:=bind_some h
 refine ⟨_,(sp_merge_Learn (⟨1,[(⟨[0,0,0,0],[1,2,1,2]⟩:T_api_Trace)]⟩:T_api_Obs) c54 (fun _=>hc54)),?_⟩
 conv=>whnf
 refine Side.mk rfl ?_
 conv=>whnf
 refine Side.mk rfl ?_
 conv=>whnf
 obtain ⟨c55,hc55,h⟩:=bind_some h
 refine ⟨_,(sp_merge_Run c54.1 [0,0,0,0,0] c55 (fun _ _=>hc55)),?_⟩
 conv=>whnf
 obtain ⟨c56,hc56,h⟩:=bind_some h
 refine ⟨_,(sp_L35_gate  c56 (hc56)),?_⟩
 conv=>whnf
 obtain ⟨c57,hc57,h⟩:=bind_some h
 refine ⟨_,(sp_merge_Sample c56 c57 (fun _=>hc57)),?_⟩
 conv=>whnf
 refine Side.mk rfl ?_
 conv=>whnf
 obtain ⟨c58,hc58,h⟩:=bind_some h
 refine ⟨_,(sp_merge_Complete c51.1 7 c58 (fun _ _=>hc58)),?_⟩
 conv=>whnf
 refine Side.mk rfl ?_
 conv=>whnf
 refine Side.mk rfl ?_
 conv=>whnf
 obtain ⟨y83,hc,hk60⟩:=bind_some h
 clear h
 have h:=hc
 clear hc
 refine Cut.mk (mkSt [(0,.im (nB y83))] [] []) (True) (hT) ?_ (fun hp=>?_)
 conv=>whnf
 refine Side.mk rfl ?_
 conv=>whnf
 obtain ⟨c84,hc84,h⟩:=bind_some h
 refine ⟨_,(sp_R35_Same c51.1 (⟨1,0,[[1],[2],[(-1:Int)]],[[1],[2],[(-1:Int)]]⟩:T_api_Part) c84 (fun _ _=>hc84)),?_⟩
 conv=>whnf
 refine Both.mk ?_ ?_<;>intro b85
 replace b85:=beq_tt b85
 replace h:=cond_t b85 h
 conv=>whnf
 refine Both.yes (tt_beq b85) ?_
 conv=>whnf
 refine Both.yes b85 ?_
 conv=>whnf
 refine Both.mk ?_ ?_<;>intro b86
 replace b86:=beq_tt b86
 obtain ⟨h,b86d⟩:=ctd b86 h
 conv=>whnf
 refine Both.yes (tt_beq b86) ?_
 conv=>whnf
 refine Both.yes b86 ?_
 conv=>whnf
 refine Both.mk ?_ ?_<;>intro b87
 replace b87:=beq_tt b87
 replace h:=cond_t b87 h
 conv=>whnf
 refine Both.yes (tt_beq b87) ?_
 conv=>whnf
 refine Both.yes b87 ?_
 conv=>whnf
 refine Both.mk ?_ ?_<;>intro b88
 replace b88:=beq_tt b88
 obtain ⟨h,b88d⟩:=ctd b88 h
 conv=>whnf
 refine Side.mk rfl ?_
 conv=>whnf
 refine Both.yes (tt_beq b88) ?_
 conv=>whnf
 refine Side.mk rfl ?_
 conv=>whnf
 refine Both.yes (tt_beq b88) ?_
 conv=>whnf
 obtain ⟨c89,hc89,h⟩:=bind_some h
 refine ⟨_,(sp_R35_Same c53.1 (⟨1,0,[[1],[0]],[[1],[2]]⟩:T_api_Part) c89 (fun _ _=>hc89)),?_⟩
 conv=>whnf
 refine Both.yes b88 ?_
 conv=>whnf
 refine Both.mk ?_ ?_<;>intro b90
 replace b90:=beq_tt b90
 replace h:=cond_t b90 h
 conv=>whnf
 refine Both.yes b90 ?_
 conv=>whnf
 refine Both.mk ?_ ?_<;>intro b91
 replace b91:=beq_tt b91
 replace h:=cond_t b91 h
 conv=>whnf
 refine Both.yes (tt_beq b91) ?_
 conv=>whnf
 refine Both.yes b91 ?_
 conv=>whnf
 refine Both.mk ?_ ?_<;>intro b92
 replace b92:=beq_tt b92
 obtain ⟨h,b92d⟩:=ctd b92 h
 conv=>whnf
 refine Side.mk rfl ?_
 conv=>whnf
 refine Both.yes (tt_beq b92) ?_
 conv=>whnf
 refine Side.mk rfl ?_
 conv=>whnf
 refine Both.yes (tt_beq b92) ?_
 conv=>whnf
 obtain ⟨c93,hc93,h⟩:=bind_some h
 refine ⟨_,(sp_R35_Same c54.1 (⟨1,0,[[1],[0]],[[1],[2]]⟩:T_api_Part) c93 (fun _ _=>hc93)),?_⟩
 conv=>whnf
 refine Both.yes b92 ?_
 conv=>whnf
 refine Both.mk ?_ ?_<;>intro b94
 replace b94:=beq_tt b94
 replace h:=cond_t b94 h
 conv=>whnf
 refine Both.yes (tt_beq b94) ?_
 conv=>whnf
 refine Both.yes b94 ?_
 conv=>whnf
 refine Both.mk ?_ ?_<;>intro b95
 replace b95:=beq_tt b95
 obtain ⟨h,b95d⟩:=ctd b95 h
 conv=>whnf
 iterate 2 (refine Both.yes (tt_beq b95) ?_;(conv=>whnf))
 obtain ⟨c96,hc96,h⟩:=bind_some h
 refine ⟨_,(sp_R01_Same c55.1 [1,2,1,2,1] c96 (fun _ _=>hc96)),?_⟩
 conv=>whnf
 refine Both.yes b95 ?_
 conv=>whnf
 refine Both.mk ?_ ?_<;>intro b97
 replace b97:=beq_tt b97
 replace h:=cond_t b97 h
 conv=>whnf
 refine Both.yes b97 ?_
 conv=>whnf
 refine Both.mk ?_ ?_<;>intro b98
 replace b98:=beq_tt b98
 replace h:=cond_t b98 h
 conv=>whnf
 iterate 5 (refine Both.yes (tt_beq b98) ?_;(conv=>whnf))
 obtain ⟨c99,hc99,h⟩:=bind_some h
 refine ⟨_,(sp_R01_SameWords c57.1 [[1,1],[0,0,1],[0,1,1]] c99 (fun _ _=>hc99)),?_⟩
 conv=>whnf
 refine Both.yes b98 ?_
 conv=>whnf
 refine Both.mk ?_ ?_<;>intro b100
 replace b100:=beq_tt b100
 replace h:=cond_t b100 h
 conv=>whnf
 refine Both.yes (tt_beq b100) ?_
 conv=>whnf
 refine Both.yes b100 ?_
 conv=>whnf
 refine Both.mk ?_ ?_<;>intro b101
 replace b101:=beq_tt b101
 obtain ⟨h,b101d⟩:=ctd b101 h
 conv=>whnf
 refine Side.mk rfl ?_
 conv=>whnf
 refine Both.yes (tt_beq b101) ?_
 conv=>whnf
 refine Side.mk rfl ?_
 conv=>whnf
 iterate 5 (refine Both.yes (tt_beq b101) ?_;(conv=>whnf))
 obtain ⟨c102,hc102,h⟩:=bind_some h
 refine ⟨_,(sp_R01_SameWords c58.1.Next [[1],[2],[2]] c102 (fun _ _=>hc102)),?_⟩
 conv=>whnf
 refine Both.yes b101 ?_
 conv=>whnf
 refine Both.mk ?_ ?_<;>intro b103
 replace b103:=beq_tt b103
 replace h:=cond_t b103 h
 conv=>whnf
 refine Side.mk rfl ?_
 conv=>whnf
 refine Both.yes (tt_beq b103) ?_
 conv=>whnf
 refine Side.mk rfl ?_
 conv=>whnf
 iterate 5 (refine Both.yes (tt_beq b103) ?_;(conv=>whnf))
 obtain ⟨c104,hc104,h⟩:=bind_some h
 refine ⟨_,(sp_R01_SameWords c58.1.Out [[1],[2],[7]] c104 (fun _ _=>hc104)),?_⟩
 conv=>whnf
 refine Both.yes b103 ?_
 conv=>whnf
 refine Both.mk ?_ ?_<;>intro b105
 replace b105:=beq_tt b105
 replace h:=cond_t b105 h
 conv=>whnf
 refine Both.yes (tt_beq b105) ?_
 conv=>whnf
 refine Both.yes b105 ?_
 conv=>whnf
 cases h
 exact Join.mk (eA [])
 replace b105:=beq_tf b105
 replace h:=cond_f b105 h
 conv=>whnf
 refine Both.no (ft_beq b105) ?_
 conv=>whnf
 refine Both.no b105 ?_
 conv=>whnf
 cases h
 exact Join.mk (eA [])
 replace b103:=beq_tf b103
 replace h:=cond_f b103 h
 conv=>whnf
 iterate 6 (refine Both.no (ft_beq b103) ?_;(conv=>whnf))
 refine Both.no b103 ?_
 conv=>whnf
 iterate 3 (refine Both.no rfl ?_;(conv=>whnf))
 cases h
 exact Join.mk (eA [])
 replace b101:=beq_tf b101
 obtain ⟨h,b101d⟩:=cfd b101 h
 conv=>whnf
 iterate 6 (refine Both.no (ft_beq b101) ?_;(conv=>whnf))
 refine Both.no b101 ?_
 conv=>whnf
 iterate 11 (refine Both.no rfl ?_;(conv=>whnf))
 cases h
 exact Join.mk (eA [])
 replace b100:=beq_tf b100
 replace h:=cond_f b100 h
 conv=>whnf
 refine Both.no (ft_beq b100) ?_
 conv=>whnf
 refine Both.no b100 ?_
 conv=>whnf
 iterate 19 (refine Both.no rfl ?_;(conv=>whnf))
 cases h
 exact Join.mk (eA [])
 replace b98:=beq_tf b98
 replace h:=cond_f b98 h
 conv=>whnf
 iterate 5 (refine Both.no (ft_beq b98) ?_;(conv=>whnf))
 refine Both.no b98 ?_
 conv=>whnf
 iterate 22 (refine Both.no rfl ?_;(conv=>whnf))
 cases h
 exact Join.mk (eA [])
 replace b97:=beq_tf b97
 replace h:=cond_f b97 h
 conv=>whnf
 refine Both.no b97 ?_
 conv=>whnf
 iterate 29 (refine Both.no rfl ?_;(conv=>whnf))
 cases h
 exact Join.mk (eA [])
 replace b95:=beq_tf b95
 obtain ⟨h,b95d⟩:=cfd b95 h
 conv=>whnf
 iterate 2 (refine Both.no (ft_beq b95) ?_;(conv=>whnf))
 refine Both.no b95 ?_
 conv=>whnf
 iterate 31 (refine Both.no rfl ?_;(conv=>whnf))
 cases h
 exact Join.mk (eA [])
 replace b94:=beq_tf b94
 replace h:=cond_f b94 h
 conv=>whnf
 refine Both.no (ft_beq b94) ?_
 conv=>whnf
 refine Both.no b94 ?_
 conv=>whnf
 iterate 35 (refine Both.no rfl ?_;(conv=>whnf))
 cases h
 exact Join.mk (eA [])
 replace b92:=beq_tf b92
 obtain ⟨h,b92d⟩:=cfd b92 h
 conv=>whnf
 iterate 2 (refine Both.no (ft_beq b92) ?_;(conv=>whnf))
 refine Both.no b92 ?_
 conv=>whnf
 iterate 38 (refine Both.no rfl ?_;(conv=>whnf))
 cases h
 exact Join.mk (eA [])
 replace b91:=beq_tf b91
 replace h:=cond_f b91 h
 conv=>whnf
 refine Both.no (ft_beq b91) ?_
 conv=>whnf
 refine Both.no b91 ?_
 conv=>whnf
 iterate 42 (refine Both.no rfl ?_;(conv=>whnf))
 cases h
 exact Join.mk (eA [])
 replace b90:=beq_tf b90
 replace h:=cond_f b90 h
 conv=>whnf
 refine Both.no b90 ?_
 conv=>whnf
 iterate 45 (refine Both.no rfl ?_;(conv=>whnf))
 cases h
 exact Join.mk (eA [])
 replace b88:=beq_tf b88
 obtain ⟨h,b88d⟩:=cfd b88 h
 conv=>whnf
 iterate 2 (refine Both.no (ft_beq b88) ?_;(conv=>whnf))
 refine Both.no b88 ?_
 conv=>whnf
 iterate 47 (refine Both.no rfl ?_;(conv=>whnf))
 cases h
 exact Join.mk (eA [])
 replace b87:=beq_tf b87
 replace h:=cond_f b87 h
 conv=>whnf
 refine Both.no (ft_beq b87) ?_
 conv=>whnf
 refine Both.no b87 ?_
 conv=>whnf
 iterate 51 (refine Both.no rfl ?_;(conv=>whnf))
 cases h
 exact Join.mk (eA [])
 replace b86:=beq_tf b86
 obtain ⟨h,b86d⟩:=cfd b86 h
 conv=>whnf
 refine Both.no (ft_beq b86) ?_
 conv=>whnf
 refine Both.no b86 ?_
 conv=>whnf
 iterate 54 (refine Both.no rfl ?_;(conv=>whnf))
 cases h
 exact Join.mk (eA [])
 replace b85:=beq_tf b85
 replace h:=cond_f b85 h
 conv=>whnf
 refine Both.no (ft_beq b85) ?_
 conv=>whnf
 refine Both.no b85 ?_
 conv=>whnf
 iterate 57 (refine Both.no rfl ?_;(conv=>whnf))
 cases h
 exact Join.mk (eA [])
 replace h:=hk60
 conv=>whnf
 cases h
 conv=>whnf
 exact ⟨rfl,rfl⟩
theorem sp_R35_known (p_:T_api_Part) (class_:List Int) (c_:Int) (a_:Int) (r:Int) (h:Ok (.agg (c_api_Part p_))→Ok (nL cI class_)→Ok (nI c_)→Ok (nI a_)→R35_known p_ class_ c_ a_=some r):Sp Tryz.prog 68 [.im (.agg (c_api_Part p_)),.im (nL cI class_),.im (nI c_),.im (nI a_)] (.im (nI r)):=by
 refine sp_of rfl [700004] rfl rfl rfl (Nat.le_of_ble_eq_true rfl) rfl fun hk=>?_
 replace h:=h hk.1 hk.2.1 hk.2.2.1 hk.2.2.2.1
 have z1:lZ p_.Next:=ok_len (Ok.agg_at hk.1 2 rfl)
 have z2:lZ p_.Out:=ok_len (Ok.agg_at hk.1 3 rfl)
 have z3:lZ class_:=ok_len hk.2.1
 unfold R35_known at h
 conv=>whnf
 obtain ⟨oc,hc,hk51⟩:=bind_some h
 clear h
 have h:=hc
 clear hc
 refine Cut.mkS oc (Y:=Unit) (fun (_:Unit)=>mkSt [] [] []) (fun (_:Unit)=>True) (by rintro ⟨⟩;exact (hT)) ?_ ?_
 conv=>whnf
 refine Loops.iter (fun (s:Nat)=>R35_known.s2 p_ class_ c_ a_ s) (fun q111=>mkSt [(1,.im (nL cI class_)),(2,.im (nI c_)),(3,.im (nI a_)),(4,.im (.ref (c_api_Part p_))),(9,.im (nI (↑q111:Int)))] [] []) (fun q111=>lZ class_∧True) h (eA []) (by rintro q111;exact ((Holds.avl 1 rfl).and (hT))) ?_
 clear h
 rintro k q111 o hp h ho126
 replace h:R35_known.s2 p_ class_ c_ a_ q111=some o:=h
 unfold R35_known.s2 at h
 obtain ⟨z141,_⟩:=hp
 conv=>whnf
 refine Nf.mk (List.length class_) len_map ?_
 conv=>whnf
 refine Both.mk ?_ ?_<;>intro b127
 obtain ⟨h,b127d⟩:=ctd b127 h
 conv=>whnf
 obtain ⟨y134,hc,hk129⟩:=bind_some h
 clear h
 have h:=hc
 clear hc
 refine Cut.mk (mkSt [(1,.im (nL cI class_)),(2,.im (nI c_)),(3,.im (nI a_)),(4,.im (.ref (c_api_Part p_))),(9,.im (nI (↑q111:Int))),(32,.im (nB y134))] [] []) (lZ class_∧True) ((Holds.avl 1 rfl).and (hT)) ?_ (fun hp=>?_)
 conv=>whnf
 obtain ⟨e135,he135,h⟩:=idxn_some h
 refine ⟨_,⟨(by omega),map_at he135,rfl⟩,?_⟩
 conv=>whnf
 refine Both.mk ?_ ?_<;>intro b136
 replace b136:=beq_tt b136
 obtain ⟨h,b136d⟩:=ctd b136 h
 conv=>whnf
 iterate 3 (refine Both.yes (tt_beq b136) ?_;(conv=>whnf))
 obtain ⟨e137,he137,h⟩:=idxn_some h
 refine ⟨_,⟨(by omega),map_at he137,rfl⟩,?_⟩
 conv=>whnf
 iterate 3 (refine Both.yes (tt_beq b136) ?_;(conv=>whnf))
 obtain ⟨e138,he138z,he138,h⟩:=idx_some h
 refine ⟨_,⟨he138z,map_at he138,rfl⟩,?_⟩
 conv=>whnf
 iterate 2 (refine Both.yes (tt_beq b136) ?_;(conv=>whnf))
 refine Both.yes b136 ?_
 conv=>whnf
 cases h
 exact Join.mk (eA [])
 replace b136:=beq_tf b136
 obtain ⟨h,b136d⟩:=cfd b136 h
 conv=>whnf
 iterate 8 (refine Both.no (ft_beq b136) ?_;(conv=>whnf))
 refine Both.no b136 ?_
 conv=>whnf
 cases h
 exact Join.mk (eA [])
 replace h:=hk129
 obtain ⟨z139,_⟩:=hp
 conv=>whnf
 refine Both.mk ?_ ?_<;>intro b140
 replace h:=cond_t b140 h
 conv=>whnf
 cases h
 have ho126:_=_:=ho126
 cases ho126
 replace h:some _=some _:=hk51
 cases h
 conv=>whnf
 exact ⟨rfl,rfl⟩
 replace h:=cond_f b140 h
 conv=>whnf
 refine Arith.mk (by show inR _;unfold inR;omega) ?_
 conv=>whnf
 cases h
 exact Nxt.mk _ ho126 (eA [])
 obtain ⟨h,b127d⟩:=cfd b127 h
 conv=>whnf
 cases h
 have ho126:_=_:=ho126
 cases ho126
 exact JoinS.mk' _ rfl (eA [])
 rintro ⟨⟩ rfl hp
 replace h:=sum_inl hk51
 conv=>whnf
 cases h
 conv=>whnf
 exact ⟨rfl,rfl⟩
theorem sp_R35_place (l_:List Int) (n_:Int) (r:Int) (h:Ok (nL cI l_)→Ok (nI n_)→R35_place l_ n_=some r):Sp Tryz.prog 69 [.im (nL cI l_),.im (nI n_)] (.im (nI r)):=by
 refine sp_of rfl [] rfl rfl rfl (Nat.le_of_ble_eq_true rfl) rfl fun hk=>?_
 replace h:=h hk.1 hk.2.1
 have z1:lZ l_:=ok_len hk.1
 unfold R35_place at h
 conv=>whnf
 obtain ⟨i84,hc,hk51⟩:=bind_some h
 clear h
 have h:=hc
 clear hc
 refine Cut.mk (mkSt [(5,.im (nI (↑i84:Int)))] [] []) (True) (hT) ?_ (fun hp=>?_)
 conv=>whnf
 refine Loops.iter (fun (s:Nat)=>R35_place.s2 l_ n_ s) (fun i94=>mkSt [(0,.im (nL cI l_)),(1,.im (nI n_)),(5,.im (nI (↑i94:Int)))] [] []) (fun i94=>lZ l_∧True) h (eA []) (by rintro i94;exact ((Holds.avl 0 rfl).and (hT))) ?_
 clear h
 rintro k i94 o hp h ho105
 replace h:R35_place.s2 l_ n_ i94=some o:=h
 unfold R35_place.s2 at h
 obtain ⟨z116,_⟩:=hp
 conv=>whnf
 obtain ⟨y110,hc,hk107⟩:=bind_some h
 clear h
 have h:=hc
 clear hc
 refine Cut.mk (mkSt [(0,.im (nL cI l_)),(1,.im (nI n_)),(5,.im (nI (↑i94:Int))),(17,.im (nB y110))] [] []) (lZ l_∧True) ((Holds.avl 0 rfl).and (hT)) ?_ (fun hp=>?_)
 conv=>whnf
 refine Nf.mk (List.length l_) len_map ?_
 conv=>whnf
 refine Both.mk ?_ ?_<;>intro b111
 replace b111:=beq_tt b111
 obtain ⟨h,b111d⟩:=ctd b111 h
 conv=>whnf
 iterate 2 (refine Both.yes (tt_beq b111) ?_;(conv=>whnf))
 obtain ⟨e112,he112,h⟩:=idxn_some h
 refine ⟨_,⟨(by omega),map_at he112,rfl⟩,?_⟩
 conv=>whnf
 iterate 3 (refine Both.yes (tt_beq b111) ?_;(conv=>whnf))
 refine Both.yes b111 ?_
 conv=>whnf
 cases h
 exact Join.mk (eA [])
 replace b111:=beq_tf b111
 obtain ⟨h,b111d⟩:=cfd b111 h
 conv=>whnf
 iterate 5 (refine Both.no (ft_beq b111) ?_;(conv=>whnf))
 refine Both.no b111 ?_
 conv=>whnf
 cases h
 exact Join.mk (eA [])
 replace h:=hk107
 obtain ⟨z113,_⟩:=hp
 conv=>whnf
 refine Both.mk ?_ ?_<;>intro b114
 replace h:=cond_t b114 h
 conv=>whnf
 obtain ⟨c115,h⟩:=chk_some h
 refine Arith.mk c115 ?_
 conv=>whnf
 cases h
 exact Nxt.mk _ ho105 (eA [])
 replace h:=cond_f b114 h
 conv=>whnf
 cases h
 have ho105:_=_:=ho105
 cases ho105
 exact Join.mk (eA [])
 replace h:=hk51
 conv=>whnf
 cases h
 conv=>whnf
 exact ⟨rfl,rfl⟩
theorem sp_R35_Folded (p_:T_api_Part) (class_:List Int) (r:T_api_Part×List Int) (h:Ok (.agg (c_api_Part p_))→Ok (nL cI class_)→R35_Folded p_ class_=some r):Sp Tryz.prog 36 [.im (.agg (c_api_Part p_)),.im (nL cI class_)] (.tup [.agg (c_api_Part r.1),nL cI r.2]):=by
 refine sp_of rfl [19,500064,500075,700002] rfl rfl rfl (Nat.le_of_ble_eq_true rfl) rfl fun hk=>?_
 replace h:=h hk.1 hk.2.1
 have z1:lZ p_.Next:=ok_len (Ok.agg_at hk.1 2 rfl)
 have z2:lZ p_.Out:=ok_len (Ok.agg_at hk.1 3 rfl)
 have z3:lZ class_:=ok_len hk.2.1
 unfold R35_Folded at h
 conv=>whnf
 obtain ⟨e51,he51z,he51,h⟩:=idx_some h
 refine ⟨_,⟨he51z,map_at he51,rfl⟩,?_⟩
 conv=>whnf
 refine Side.mk rfl ?_
 conv=>whnf
 obtain ⟨⟨y1269,y1270,y1271⟩,hc,hk52⟩:=bind_some h
 clear h
 have h:=hc
 clear hc
 refine Cut.mk (mkSt [(4,.own 103 1 0),(6,.osl 104 1),(7,.own 105 1 0)] [(103,.box 24 4),(104,.row 3 1 (List.map cI y1269)),(105,.box 24 4),(106,.row 25 1 (List.map (cL cI) y1270)),(107,.row 25 1 (List.map (cL cI) y1271))] [(103,0,.im (nI 0)),(103,1,.im (nI 0)),(103,2,.im (.val (.slice none 0 0))),(103,3,.im (.val (.slice none 0 0))),(105,0,.im (nI p_.Inputs)),(105,1,.im (nI 0)),(105,2,.osl 106 1),(105,3,.osl 107 1)]) (lZ y1269∧lZ y1270∧lZ y1271∧True) ((Holds.kdl 104 rfl).and ((Holds.kdl 106 rfl).and ((Holds.kdl 107 rfl).and (hT)))) ?_ (fun hp=>?_)
 conv=>whnf
 refine Loops.iter (fun (s:List Int×List (List Int)×List (List Int)×Nat)=>R35_Folded.s56 p_ class_ s.1 s.2.1 s.2.2.1 s.2.2.2) (fun (y1645,y1646,y1647,i1648)=>mkSt [(1,.im (nL cI class_)),(2,.im (.ref (c_api_Part p_))),(4,.own 103 1 0),(6,.osl 104 1),(7,.own 105 1 0),(8,.im (nI (↑i1648:Int)))] [(103,.box 24 4),(104,.row 3 1 (List.map cI y1645)),(105,.box 24 4),(106,.row 25 1 (List.map (cL cI) y1646)),(107,.row 25 1 (List.map (cL cI) y1647))] [(103,0,.im (nI 0)),(103,1,.im (nI 0)),(103,2,.im (.val (.slice none 0 0))),(103,3,.im (.val (.slice none 0 0))),(105,0,.im (nI p_.Inputs)),(105,1,.im (nI 0)),(105,2,.osl 106 1),(105,3,.osl 107 1)]) (fun (y1645,y1646,y1647,i1648)=>lZ class_∧lZ y1645∧lZ y1646∧lZ y1647∧True) h (Ent.mk [(103,some 4),(104,some 19),(105,some 7),(106,none),(107,none)] rfl ⟨eI rfl rfl,eI rfl rfl,⟨.own 4 _ 0,rfl,.own rfl rfl rfl⟩,⟨.osl 19 _,rfl,.osl rfl rfl rfl⟩,⟨.own 7 _ 0,rfl,.own rfl rfl rfl⟩,eI rfl rfl,trivial⟩ ⟨.inl ⟨4,rfl,rfl,trivial⟩,.inl ⟨19,rfl,rfl,trivial⟩,.inl ⟨7,rfl,rfl,trivial⟩,.inr ⟨rfl,rfl,.inl ⟨_,_,rfl,by decide⟩⟩,.inr ⟨rfl,rfl,.inl ⟨_,_,rfl,by decide⟩⟩,trivial⟩ ⟨⟨4,.im _,rfl,rfl,.im (Sub.rfl' rfl)⟩,⟨4,.im _,rfl,rfl,.im (Sub.rfl' rfl)⟩,⟨4,.im (.val (.slice none 0 0)),rfl,rfl,.im (Sub.rfl' rfl)⟩,⟨4,.im (.val (.slice none 0 0)),rfl,rfl,.im (Sub.rfl' rfl)⟩,⟨7,.im _,rfl,rfl,.im (Sub.rfl' rfl)⟩,⟨7,.im _,rfl,rfl,.im (Sub.rfl' rfl)⟩,⟨7,.im (.val (.slice none 0 0)),rfl,rfl,.made rfl rfl⟩,⟨7,.im (.val (.slice none 0 0)),rfl,rfl,.made rfl rfl⟩,trivial⟩) (by rintro ⟨y1645,y1646,y1647,i1648⟩;exact ((Holds.avl 1 rfl).and ((Holds.kdl 104 rfl).and ((Holds.kdl 106 rfl).and ((Holds.kdl 107 rfl).and (hT)))))) ?_
 clear h
 rintro k ⟨y1645,y1646,y1647,i1648⟩ o hp h ho2066
 replace h:R35_Folded.s56 p_ class_ y1645 y1646 y1647 i1648=some o:=h
 unfold R35_Folded.s56 at h
 obtain ⟨z2484,z2485,z2486,z2487,_⟩:=hp
 conv=>whnf
 refine Side.mk rfl ?_
 conv=>whnf
 refine Nf.mk (List.length y1645) len_map ?_
 conv=>whnf
 refine Both.mk ?_ ?_<;>intro b2067
 obtain ⟨h,b2067d⟩:=ctd b2067 h
 conv=>whnf
 obtain ⟨⟨y2271,y2272,y2273⟩,hc,hk2068⟩:=bind_some h
 clear h
 have h:=hc
 clear hc
 refine Cut.mk (mkSt [(1,.im (nL cI class_)),(2,.im (.ref (c_api_Part p_))),(4,.own 103 1 0),(6,.osl 104 1),(7,.own 105 1 0),(8,.im (nI (↑i1648:Int))),(9,.osl 108 1),(10,.osl 109 1)] [(103,.box 24 4),(104,.row 3 1 (List.map cI y2271)),(105,.box 24 4),(106,.row 25 1 (List.map (cL cI) y1646)),(107,.row 25 1 (List.map (cL cI) y1647)),(108,.row 3 1 (List.map cI y2272)),(109,.row 3 1 (List.map cI y2273))] [(103,0,.im (nI 0)),(103,1,.im (nI 0)),(103,2,.im (.val (.slice none 0 0))),(103,3,.im (.val (.slice none 0 0))),(105,0,.im (nI p_.Inputs)),(105,1,.im (nI 0)),(105,2,.osl 106 1),(105,3,.osl 107 1)]) (lZ class_∧lZ y2271∧lZ y1646∧lZ y1647∧lZ y2272∧lZ y2273∧True) ((Holds.avl 1 rfl).and ((Holds.kdl 104 rfl).and ((Holds.kdl 106 rfl).and ((Holds.kdl 107 rfl).and ((Holds.kdl 108 rfl).and ((Holds.kdl 109 rfl).and (hT))))))) ?_ (fun hp=>?_)
 conv=>whnf
 refine Loops.iter (fun (s:List Int×List Int×List Int×Nat)=>R35_Folded.s54 p_ class_ i1648 s.1 s.2.1 s.2.2.1 s.2.2.2) (fun (y2329,y2330,y2331,a2332)=>mkSt [(1,.im (nL cI class_)),(2,.im (.ref (c_api_Part p_))),(4,.own 103 1 0),(6,.osl 104 1),(7,.own 105 1 0),(8,.im (nI (↑i1648:Int))),(9,.osl 108 1),(10,.osl 109 1),(11,.im (nI (↑a2332:Int)))] [(103,.box 24 4),(104,.row 3 1 (List.map cI y2329)),(105,.box 24 4),(106,.row 25 1 (List.map (cL cI) y1646)),(107,.row 25 1 (List.map (cL cI) y1647)),(108,.row 3 1 (List.map cI y2330)),(109,.row 3 1 (List.map cI y2331))] [(103,0,.im (nI 0)),(103,1,.im (nI 0)),(103,2,.im (.val (.slice none 0 0))),(103,3,.im (.val (.slice none 0 0))),(105,0,.im (nI p_.Inputs)),(105,1,.im (nI 0)),(105,2,.osl 106 1),(105,3,.osl 107 1)]) (fun (y2329,y2330,y2331,a2332)=>lZ class_∧lZ y2329∧lZ y1646∧lZ y1647∧lZ y2330∧lZ y2331∧True) h (eA [(103,some 103),(104,some 104),(105,some 105),(106,some 106),(107,some 107),(108,none),(109,none)]) (by rintro ⟨y2329,y2330,y2331,a2332⟩;exact ((Holds.avl 1 rfl).and ((Holds.kdl 104 rfl).and ((Holds.kdl 106 rfl).and ((Holds.kdl 107 rfl).and ((Holds.kdl 108 rfl).and ((Holds.kdl 109 rfl).and (hT)))))))) ?_
 clear h
 rintro k ⟨y2329,y2330,y2331,a2332⟩ o hp h ho2401
 replace h:R35_Folded.s54 p_ class_ i1648 y2329 y2330 y2331 a2332=some o:=h
 unfold R35_Folded.s54 at h
 obtain ⟨z2470,z2471,z2472,z2473,z2474,z2475,_⟩:=hp
 conv=>whnf
 refine Both.mk ?_ ?_<;>intro b2402
 obtain ⟨h,b2402d⟩:=ctd b2402 h
 conv=>whnf
 obtain ⟨⟨y2432,y2433,y2434⟩,hc,hk2403⟩:=bind_some h
 clear h
 have h:=hc
 clear hc
 refine Cut.mk (mkSt [(1,.im (nL cI class_)),(2,.im (.ref (c_api_Part p_))),(4,.own 103 1 0),(6,.osl 104 1),(7,.own 105 1 0),(8,.im (nI (↑i1648:Int))),(9,.osl 108 1),(10,.osl 109 1),(11,.im (nI (↑a2332:Int)))] [(103,.box 24 4),(104,.row 3 1 (List.map cI y2432)),(105,.box 24 4),(106,.row 25 1 (List.map (cL cI) y1646)),(107,.row 25 1 (List.map (cL cI) y1647)),(108,.row 3 1 (List.map cI y2433)),(109,.row 3 1 (List.map cI y2434))] [(103,0,.im (nI 0)),(103,1,.im (nI 0)),(103,2,.im (.val (.slice none 0 0))),(103,3,.im (.val (.slice none 0 0))),(105,0,.im (nI p_.Inputs)),(105,1,.im (nI 0)),(105,2,.osl 106 1),(105,3,.osl 107 1)]) (lZ class_∧lZ y2432∧lZ y1646∧lZ y1647∧lZ y2433∧lZ y2434∧True) ((Holds.avl 1 rfl).and ((Holds.kdl 104 rfl).and ((Holds.kdl 106 rfl).and ((Holds.kdl 107 rfl).and ((Holds.kdl 108 rfl).and ((Holds.kdl 109 rfl).and (hT))))))) ?_ (fun hp=>?_)
 conv=>whnf
 obtain ⟨e2435,he2435,h⟩:=idxn_some h
 refine Side.mk ⟨(by omega),rfl,map_lt he2435⟩ ?_
 conv=>whnf
 refine ⟨_,_,⟨rfl,map_at he2435,rfl,rfl⟩,?_⟩
 conv=>whnf
 obtain ⟨c2436,hc2436,h⟩:=bind_some h
 refine ⟨_,(sp_R35_known p_ class_ e2435 (↑a2332:Int) c2436 (fun _ _ _ _=>hc2436)),?_⟩
 conv=>whnf
 refine Both.mk ?_ ?_<;>intro b2437
 obtain ⟨h,b2437d⟩:=ctd b2437 h
 conv=>whnf
 obtain ⟨c2438,h⟩:=chk_some h
 refine Side.mk ⟨rfl,map_len (l:=[(-1:Int)]) (c:=cI) fun _=>rfl,show capOk _ 8 by simpa only [List.length_map,List.length_cons,List.length_nil,Nat.zero_add] using c2438⟩ ?_
 conv=>whnf
 refine Nf.mk (List.map cI (y2330++[(-1:Int)])) (app_map (l:=y2330) (m:=[(-1:Int)]) (c:=cI)) ?_
 conv=>whnf
 obtain ⟨c2439,h⟩:=chk_some h
 refine Side.mk ⟨rfl,map_len (l:=[(-1:Int)]) (c:=cI) fun _=>rfl,show capOk _ 8 by simpa only [List.length_map,List.length_cons,List.length_nil,Nat.zero_add] using c2439⟩ ?_
 conv=>whnf
 refine Nf.mk (List.map cI (y2331++[(-1:Int)])) (app_map (l:=y2331) (m:=[(-1:Int)]) (c:=cI)) ?_
 conv=>whnf
 cases h
 exact Join.mk (eA [(103,some 103),(104,some 104),(105,some 105),(106,some 106),(107,some 107),(108,some 108),(109,some 109)])
 obtain ⟨h,b2437d⟩:=cfd b2437 h
 conv=>whnf
 obtain ⟨e2440,he2440z,he2440,h⟩:=idx_some h
 refine ⟨_,⟨he2440z,map_at he2440,rfl⟩,?_⟩
 conv=>whnf
 obtain ⟨e2441,he2441,h⟩:=idxn_some h
 refine ⟨_,⟨(by omega),map_at he2441,rfl⟩,?_⟩
 conv=>whnf
 obtain ⟨e2442,he2442z,he2442,h⟩:=idx_some h
 refine ⟨_,⟨he2442z,map_at he2442,rfl⟩,?_⟩
 conv=>whnf
 obtain ⟨y2448,hc,hk2444⟩:=bind_some h
 clear h
 have h:=hc
 clear hc
 refine Cut.mk (mkSt [(1,.im (nL cI class_)),(2,.im (.ref (c_api_Part p_))),(4,.own 103 1 0),(6,.osl 104 1),(7,.own 105 1 0),(8,.im (nI (↑i1648:Int))),(9,.osl 108 1),(10,.osl 109 1),(11,.im (nI (↑a2332:Int))),(12,.im (nI c2436)),(13,.im (nI e2442))] [(103,.box 24 4),(104,.row 3 1 (List.map cI y2448)),(105,.box 24 4),(106,.row 25 1 (List.map (cL cI) y1646)),(107,.row 25 1 (List.map (cL cI) y1647)),(108,.row 3 1 (List.map cI y2330)),(109,.row 3 1 (List.map cI y2331))] [(103,0,.im (nI 0)),(103,1,.im (nI 0)),(103,2,.im (.val (.slice none 0 0))),(103,3,.im (.val (.slice none 0 0))),(105,0,.im (nI p_.Inputs)),(105,1,.im (nI 0)),(105,2,.osl 106 1),(105,3,.osl 107 1)]) (lZ class_∧lZ y2448∧lZ y1646∧lZ y1647∧lZ y2330∧lZ y2331∧True) ((Holds.avl 1 rfl).and ((Holds.kdl 104 rfl).and ((Holds.kdl 106 rfl).and ((Holds.kdl 107 rfl).and ((Holds.kdl 108 rfl).and ((Holds.kdl 109 rfl).and (hT))))))) ?_ (fun hp=>?_)
 conv=>whnf
 refine Side.mk ⟨rfl,trivial⟩ ?_
 conv=>whnf
 obtain ⟨c2449,hc2449,h⟩:=bind_some h
 refine ⟨_,(sp_R35_place y2329 e2442 c2449 (fun _ _=>hc2449)),?_⟩
 conv=>whnf
 refine Side.mk flat_one ?_
 conv=>whnf
 refine Side.mk rfl ?_
 conv=>whnf
 refine Nf.mk (List.length y2329) len_map ?_
 conv=>whnf
 refine Both.mk ?_ ?_<;>intro b2450
 obtain ⟨h,b2450d⟩:=ctd b2450 h
 conv=>whnf
 obtain ⟨c2451,h⟩:=chk_some h
 refine Side.mk ⟨rfl,map_len (l:=[e2442]) (c:=cI) fun _=>rfl,show capOk _ 8 by simpa only [List.length_map,List.length_cons,List.length_nil,Nat.zero_add] using c2451⟩ ?_
 conv=>whnf
 refine Nf.mk (List.map cI (y2329++[e2442])) (app_map (l:=y2329) (m:=[e2442]) (c:=cI)) ?_
 conv=>whnf
 cases h
 exact Join.mk (eA [(103,some 103),(104,some 104),(105,some 105),(106,some 106),(107,some 107),(108,some 108),(109,some 109)])
 obtain ⟨h,b2450d⟩:=cfd b2450 h
 conv=>whnf
 cases h
 exact Join.mk (eA [(103,some 103),(104,some 104),(105,some 105),(106,some 106),(107,some 107),(108,some 108),(109,some 109)])
 replace h:=hk2444
 obtain ⟨z2452,z2453,z2454,z2455,z2456,z2457,_⟩:=hp
 conv=>whnf
 refine Side.mk ⟨rfl,trivial⟩ ?_
 conv=>whnf
 obtain ⟨c2458,hc2458,h⟩:=bind_some h
 refine ⟨_,(sp_R35_place y2448 e2442 c2458 (fun _ _=>hc2458)),?_⟩
 conv=>whnf
 refine Side.mk flat_one ?_
 conv=>whnf
 obtain ⟨c2459,h⟩:=chk_some h
 refine Side.mk ⟨rfl,map_len (l:=[c2458]) (c:=cI) fun _=>rfl,show capOk _ 8 by simpa only [List.length_map,List.length_cons,List.length_nil,Nat.zero_add] using c2459⟩ ?_
 conv=>whnf
 refine Nf.mk (List.map cI (y2330++[c2458])) (app_map (l:=y2330) (m:=[c2458]) (c:=cI)) ?_
 conv=>whnf
 obtain ⟨e2460,he2460z,he2460,h⟩:=idx_some h
 refine ⟨_,⟨he2460z,map_at he2460,rfl⟩,?_⟩
 conv=>whnf
 obtain ⟨e2461,he2461,h⟩:=idxn_some h
 refine ⟨_,⟨(by omega),map_at he2461,rfl⟩,?_⟩
 conv=>whnf
 obtain ⟨c2462,h⟩:=chk_some h
 refine Side.mk ⟨rfl,map_len (l:=[e2461]) (c:=cI) fun _=>rfl,show capOk _ 8 by simpa only [List.length_map,List.length_cons,List.length_nil,Nat.zero_add] using c2462⟩ ?_
 conv=>whnf
 refine Nf.mk (List.map cI (y2331++[e2461])) (app_map (l:=y2331) (m:=[e2461]) (c:=cI)) ?_
 conv=>whnf
 cases h
 exact Join.mk (eA [(103,some 103),(104,some 104),(105,some 105),(106,some 106),(107,some 107),(108,some 108),(109,some 109)])
 replace h:R35_Folded.k53 a2332 y2432 y2433 y2434=some _:=hk2403
 unfold R35_Folded.k53 at h
 obtain ⟨z2463,z2464,z2465,z2466,z2467,z2468,_⟩:=hp
 conv=>whnf
 obtain ⟨c2469,h⟩:=chk_some h
 refine Arith.mk c2469 ?_
 conv=>whnf
 cases h
 exact Nxt.mk _ ho2401 (eA [(103,some 103),(104,some 104),(105,some 105),(106,some 106),(107,some 107),(108,some 108),(109,some 109)])
 obtain ⟨h,b2402d⟩:=cfd b2402 h
 conv=>whnf
 cases h
 have ho2401:_=_:=ho2401
 cases ho2401
 exact Join.mk (eA [(103,some 103),(104,some 104),(105,some 105),(106,some 106),(107,some 107),(108,some 108),(109,some 109)])
 replace h:R35_Folded.k55 y1646 y1647 i1648 y2271 y2272 y2273=some _:=hk2068
 unfold R35_Folded.k55 at h
 obtain ⟨z2476,z2477,z2478,z2479,z2480,z2481,_⟩:=hp
 conv=>whnf
 refine Side.mk rfl ?_
 conv=>whnf
 refine Side.mk rfl ?_
 conv=>whnf
 refine Side.mk ⟨rfl,trivial⟩ ?_
 conv=>whnf
 obtain ⟨c2482,h⟩:=chk_some h
 refine Side.mk ⟨rfl,map_len (l:=[y2272]) (c:=cL cI) fun _=>rfl,show capOk _ 24 by simpa only [List.length_map,List.length_cons,List.length_nil,Nat.zero_add] using c2482⟩ ?_
 conv=>whnf
 refine Nf.mk (List.map (cL cI) (y1646++[y2272])) (app_map (l:=y1646) (m:=[y2272]) (c:=cL cI)) ?_
 conv=>whnf
 refine Side.mk rfl ?_
 conv=>whnf
 refine Side.mk rfl ?_
 conv=>whnf
 refine Side.mk rfl ?_
 conv=>whnf
 refine Side.mk rfl ?_
 conv=>whnf
 refine Side.mk ⟨rfl,trivial⟩ ?_
 conv=>whnf
 obtain ⟨c2483,h⟩:=chk_some h
 refine Side.mk ⟨rfl,map_len (l:=[y2273]) (c:=cL cI) fun _=>rfl,show capOk _ 24 by simpa only [List.length_map,List.length_cons,List.length_nil,Nat.zero_add] using c2483⟩ ?_
 conv=>whnf
 refine Nf.mk (List.map (cL cI) (y1647++[y2273])) (app_map (l:=y1647) (m:=[y2273]) (c:=cL cI)) ?_
 conv=>whnf
 refine Side.mk rfl ?_
 conv=>whnf
 refine Side.mk rfl ?_
 conv=>whnf
 refine Arith.mk (by show inR _;unfold inR;omega) ?_
 conv=>whnf
 cases h
 exact Nxt.mk _ ho2066 (eA [(103,some 103),(104,some 104),(105,some 105),(106,some 106),(107,some 107)])
 obtain ⟨h,b2067d⟩:=cfd b2067 h
 conv=>whnf
 cases h
 have ho2066:_=_:=ho2066
 cases ho2066
 exact Join.mk (eA [(103,some 103),(104,some 104),(105,some 105),(106,some 106),(107,some 107)])
 replace h:R35_Folded.k57 p_ y1269 y1270 y1271=some _:=hk52
 unfold R35_Folded.k57 at h
 obtain ⟨z2488,z2489,z2490,_⟩:=hp
 conv=>whnf
 refine Side.mk rfl ?_
 conv=>whnf
 refine Side.mk rfl ?_
 conv=>whnf
 cases h
 conv=>whnf
 refine Side.mk ⟨rfl,trivial⟩ ?_
 conv=>whnf
 exact Side.mk ⟨rfl,rfl,rfl,trivial⟩ ⟨rfl,rfl⟩
theorem sp_R35_join (class_:List Int) (s_:Int) (t_:Int) (r:List Int) (h:OkL (List.map cI class_)→Ok (nI s_)→Ok (nI t_)→R35_join class_ s_ t_=some r):Sp Tryz.prog 67 [.lent (.row 3 1 (List.map cI class_)),.im (nI s_),.im (nI t_)] (.mk true [] [.lent (.row 3 1 (List.map cI r))]):=by
 refine sp_of rfl [] rfl rfl rfl (Nat.le_of_ble_eq_true rfl) rfl fun hk=>?_
 replace h:=h hk.1 hk.2.1 hk.2.2.1
 have z1:lZ class_:=okl_len hk.1
 unfold R35_join at h
 conv=>whnf
 obtain ⟨e51,he51z,he51,h⟩:=idx_some h
 refine Side.mk ⟨he51z,rfl,map_lt he51⟩ ?_
 conv=>whnf
 refine ⟨_,_,⟨rfl,map_at he51,rfl,rfl⟩,?_⟩
 conv=>whnf
 obtain ⟨e52,he52z,he52,h⟩:=idx_some h
 refine Side.mk ⟨he52z,rfl,map_lt he52⟩ ?_
 conv=>whnf
 refine ⟨_,_,⟨rfl,map_at he52,rfl,rfl⟩,?_⟩
 conv=>whnf
 obtain ⟨e53,he53z,he53,h⟩:=idx_some h
 refine Side.mk ⟨he53z,rfl,map_lt he53⟩ ?_
 conv=>whnf
 refine ⟨_,_,⟨rfl,map_at he53,rfl,rfl⟩,?_⟩
 conv=>whnf
 obtain ⟨e54,he54z,he54,h⟩:=idx_some h
 refine Side.mk ⟨he54z,rfl,map_lt he54⟩ ?_
 conv=>whnf
 refine ⟨_,_,⟨rfl,map_at he54,rfl,rfl⟩,?_⟩
 conv=>whnf
 obtain ⟨y72,hc,hk55⟩:=bind_some h
 clear h
 have h:=hc
 clear hc
 refine Cut.mk (mkSt [(0,.osl 0 0)] [(0,.row 3 1 (List.map cI y72))] []) (lZ y72∧True) ((Holds.kdl 0 rfl).and (hT)) ?_ (fun hp=>?_)
 conv=>whnf
 refine Loops.iter (fun (s:List Int×Nat)=>R35_join.s2 e51 e52 e53 e54 s.1 s.2) (fun (y77,q78)=>mkSt [(0,.osl 0 0),(6,.im (nI (min e51 e52))),(7,.im (nI (max e53 e54))),(8,.im (nI (↑q78:Int)))] [(0,.row 3 1 (List.map cI y77))] []) (fun (y77,q78)=>lZ y77∧True) h (eA [(0,some 0)]) (by rintro ⟨y77,q78⟩;exact ((Holds.kdl 0 rfl).and (hT))) ?_
 clear h
 rintro k ⟨y77,q78⟩ o hp h ho83
 replace h:R35_join.s2 e51 e52 e53 e54 y77 q78=some o:=h
 unfold R35_join.s2 at h
 obtain ⟨z88,_⟩:=hp
 conv=>whnf
 refine Side.mk rfl ?_
 conv=>whnf
 refine Nf.mk (List.length y77) len_map ?_
 conv=>whnf
 refine Both.mk ?_ ?_<;>intro b84
 obtain ⟨h,b84d⟩:=ctd b84 h
 conv=>whnf
 obtain ⟨e85,he85,h⟩:=idxn_some h
 refine Side.mk ⟨(by omega),rfl,map_lt he85⟩ ?_
 conv=>whnf
 refine ⟨_,_,⟨rfl,map_at he85,rfl,rfl⟩,?_⟩
 conv=>whnf
 refine Both.mk ?_ ?_<;>intro b86
 obtain ⟨h,b86d⟩:=ctd b86 h
 conv=>whnf
 obtain ⟨e87,he87,h⟩:=idxn_some h
 refine Side.mk ⟨(by omega),rfl,map_lt he87⟩ ?_
 conv=>whnf
 refine Side.mk ⟨rfl,trivial⟩ ?_
 conv=>whnf
 refine ⟨_,map_at he87,?_⟩
 conv=>whnf
 refine Nf.mk (List.map cI (List.set y77 q78 (min e51 e52))) (set_map rfl) ?_
 conv=>whnf
 refine Arith.mk (by show inR _;unfold inR;omega) ?_
 conv=>whnf
 cases h
 exact Nxt.mk _ ho83 (eA [(0,some 0)])
 obtain ⟨h,b86d⟩:=cfd b86 h
 conv=>whnf
 refine Arith.mk (by show inR _;unfold inR;omega) ?_
 conv=>whnf
 cases h
 exact Nxt.mk _ ho83 (eA [(0,some 0)])
 obtain ⟨h,b84d⟩:=cfd b84 h
 conv=>whnf
 cases h
 have ho83:_=_:=ho83
 cases ho83
 exact Join.mk (eA [(0,some 0)])
 replace h:=hk55
 obtain ⟨z89,_⟩:=hp
 conv=>whnf
 cases h
 conv=>whnf
 exact Side.mk ⟨rfl,trivial⟩ ⟨rfl,rfl⟩
theorem sp_R35_Classes (p_:T_api_Part) (s_:Int) (t_:Int) (r:List Int×Bool) (h:Ok (.agg (c_api_Part p_))→Ok (nI s_)→Ok (nI t_)→R35_Classes p_ s_ t_=some r):Sp Tryz.prog 35 [.im (.agg (c_api_Part p_)),.im (nI s_),.im (nI t_)] (.mk true [.ow (.row 3 1 (List.map cI r.1)),.im (nB r.2)] []):=by
 refine sp_of rfl [35000,140000,700003,2035000,2140000] rfl rfl rfl (Nat.le_of_ble_eq_true rfl) rfl fun hk=>?_
 replace h:=h hk.1 hk.2.1 hk.2.2.1
 have z1:lZ p_.Next:=ok_len (Ok.agg_at hk.1 2 rfl)
 have z2:lZ p_.Out:=ok_len (Ok.agg_at hk.1 3 rfl)
 unfold R35_Classes at h
 conv=>whnf
 refine Nf.mk (List.length p_.Next) len_map ?_
 conv=>whnf
 obtain ⟨c51,h⟩:=chk_some h
 refine Side.mk c51 ?_
 conv=>whnf
 refine Nf.mk (List.map cI (List.replicate (List.length p_.Next) (0:Int))) (rep_map (c:=cI) (z:=0) (n:=(List.length p_.Next)) rfl rfl) ?_
 conv=>whnf
 obtain ⟨y63,hc,hk52⟩:=bind_some h
 clear h
 have h:=hc
 clear hc
 refine Cut.mk (mkSt [(1,.im (nI s_)),(2,.im (nI t_)),(3,.im (.ref (c_api_Part p_))),(8,.im (nI (↑(List.length p_.Next):Int))),(9,.osl 141 1)] [(141,.row 3 1 (List.map cI y63))] []) (lZ y63∧True) ((Holds.kdl 141 rfl).and (hT)) ?_ (fun hp=>?_)
 conv=>whnf
 refine Loops.iter (fun (s:List Int×Nat)=>R35_Classes.s2 p_ s.1 s.2) (fun (y66,q67)=>mkSt [(1,.im (nI s_)),(2,.im (nI t_)),(3,.im (.ref (c_api_Part p_))),(8,.im (nI (↑(List.length p_.Next):Int))),(9,.osl 141 1),(10,.im (nI (↑q67:Int)))] [(141,.row 3 1 (List.map cI y66))] []) (fun (y66,q67)=>lZ y66∧True) h (eA [(141,some 21)]) (by rintro ⟨y66,q67⟩;exact ((Holds.kdl 141 rfl).and (hT))) ?_
 clear h
 rintro k ⟨y66,q67⟩ o hp h ho70
 replace h:R35_Classes.s2 p_ y66 q67=some o:=h
 unfold R35_Classes.s2 at h
 obtain ⟨z73,_⟩:=hp
 conv=>whnf
 refine Both.mk ?_ ?_<;>intro b71
 obtain ⟨h,b71d⟩:=ctd b71 h
 conv=>whnf
 obtain ⟨e72,he72,h⟩:=idxn_some h
 refine Side.mk ⟨(by omega),rfl,map_lt he72⟩ ?_
 conv=>whnf
 refine Side.mk ⟨rfl,trivial⟩ ?_
 conv=>whnf
 refine ⟨_,map_at he72,?_⟩
 conv=>whnf
 refine Nf.mk (List.map cI (List.set y66 q67 (↑q67:Int))) (set_map rfl) ?_
 conv=>whnf
 refine Arith.mk (by show inR _;unfold inR;omega) ?_
 conv=>whnf
 cases h
 exact Nxt.mk _ ho70 (eA [(141,some 141)])
 obtain ⟨h,b71d⟩:=cfd b71 h
 conv=>whnf
 cases h
 have ho70:_=_:=ho70
 cases ho70
 exact Join.mk (eA [(141,some 141)])
 replace h:=hk52
 obtain ⟨z74,_⟩:=hp
 conv=>whnf
 refine Side.mk ⟨rfl,trivial⟩ ?_
 conv=>whnf
 obtain ⟨c75,hc75,h⟩:=bind_some h
 refine ⟨_,(sp_R35_join y63 s_ t_ c75 (fun _ _ _=>hc75)),?_⟩
 conv=>whnf
 obtain ⟨oc,hc,hk76⟩:=bind_some h
 clear h
 have h:=hc
 clear hc
 refine Cut.mkS oc (Y:=List Int) (fun y6833=>mkSt [(9,.osl 141 1)] [(141,.row 3 1 (List.map cI y6833))] []) (fun y6833=>lZ y6833∧True) (by rintro y6833;exact ((Holds.kdl 141 rfl).and (hT))) ?_ ?_
 conv=>whnf
 refine Loops.iter (fun (s:List Int×Bool)=>R35_Classes.s202 p_ s.1 s.2) (fun (y9084,more9085)=>mkSt [(3,.im (.ref (c_api_Part p_))),(8,.im (nI (↑(List.length p_.Next):Int))),(9,.osl 141 1),(11,.im (nB more9085))] [(141,.row 3 1 (List.map cI y9084))] []) (fun (y9084,more9085)=>lZ y9084∧True) h (eA [(141,some 141)]) (by rintro ⟨y9084,more9085⟩;exact ((Holds.kdl 141 rfl).and (hT))) ?_
 clear h
 rintro k ⟨y9084,more9085⟩ o hp h ho11337
 replace h:R35_Classes.s202 p_ y9084 more9085=some o:=h
 unfold R35_Classes.s202 at h
 obtain ⟨z13589,_⟩:=hp
 conv=>whnf
 refine Both.mk ?_ ?_<;>intro b11338
 replace h:=cond_t b11338 h
 conv=>whnf
 obtain ⟨oc,hc,hk11339⟩:=bind_some h
 clear h
 have h:=hc
 clear hc
 refine Cut.mkS oc (Y:=List Int×Bool) (fun (y12463,more12464)=>mkSt [(3,.im (.ref (c_api_Part p_))),(8,.im (nI (↑(List.length p_.Next):Int))),(9,.osl 141 1),(11,.im (nB more12464))] [(141,.row 3 1 (List.map cI y12463))] []) (fun (y12463,more12464)=>lZ y12463∧True) (by rintro ⟨y12463,more12464⟩;exact ((Holds.kdl 141 rfl).and (hT))) ?_ ?_
 conv=>whnf
 refine Loops.iter (fun (s:List Int×Bool×Nat)=>R35_Classes.s200 p_ s.1 s.2.1 s.2.2) (fun (y12837,more12838,a12839)=>mkSt [(3,.im (.ref (c_api_Part p_))),(8,.im (nI (↑(List.length p_.Next):Int))),(9,.osl 141 1),(11,.im (nB more12838)),(12,.im (nI (↑a12839:Int)))] [(141,.row 3 1 (List.map cI y12837))] []) (fun (y12837,more12838,a12839)=>lZ y12837∧True) h (eA [(141,some 141)]) (by rintro ⟨y12837,more12838,a12839⟩;exact ((Holds.kdl 141 rfl).and (hT))) ?_
 clear h
 rintro k ⟨y12837,more12838,a12839⟩ o hp h ho13213
 replace h:R35_Classes.s200 p_ y12837 more12838 a12839=some o:=h
 unfold R35_Classes.s200 at h
 obtain ⟨z13587,_⟩:=hp
 conv=>whnf
 refine Both.mk ?_ ?_<;>intro b13214
 obtain ⟨h,b13214d⟩:=ctd b13214 h
 conv=>whnf
 obtain ⟨c13215,h⟩:=chk_some h
 refine Side.mk c13215 ?_
 conv=>whnf
 refine Nf.mk (List.map cI (List.replicate (List.length p_.Next) (0:Int))) (rep_map (c:=cI) (z:=0) (n:=(List.length p_.Next)) rfl rfl) ?_
 conv=>whnf
 obtain ⟨y13228,hc,hk13216⟩:=bind_some h
 clear h
 have h:=hc
 clear hc
 refine Cut.mk (mkSt [(3,.im (.ref (c_api_Part p_))),(8,.im (nI (↑(List.length p_.Next):Int))),(9,.osl 141 1),(11,.im (nB more12838)),(12,.im (nI (↑a12839:Int))),(13,.osl 142 1)] [(141,.row 3 1 (List.map cI y12837)),(142,.row 3 1 (List.map cI y13228))] []) (lZ y12837∧lZ y13228∧True) ((Holds.kdl 141 rfl).and ((Holds.kdl 142 rfl).and (hT))) ?_ (fun hp=>?_)
 conv=>whnf
 refine Loops.iter (fun (s:List Int×Nat)=>R35_Classes.s196 p_ s.1 s.2) (fun (y13231,q13232)=>mkSt [(3,.im (.ref (c_api_Part p_))),(8,.im (nI (↑(List.length p_.Next):Int))),(9,.osl 141 1),(11,.im (nB more12838)),(12,.im (nI (↑a12839:Int))),(13,.osl 142 1),(14,.im (nI (↑q13232:Int)))] [(141,.row 3 1 (List.map cI y12837)),(142,.row 3 1 (List.map cI y13231))] []) (fun (y13231,q13232)=>lZ y12837∧lZ y13231∧True) h (eA [(141,some 141),(142,some 43)]) (by rintro ⟨y13231,q13232⟩;exact ((Holds.kdl 141 rfl).and ((Holds.kdl 142 rfl).and (hT)))) ?_
 clear h
 rintro k ⟨y13231,q13232⟩ o hp h ho13235
 replace h:R35_Classes.s196 p_ y13231 q13232=some o:=h
 unfold R35_Classes.s196 at h
 obtain ⟨z13238,z13239,_⟩:=hp
 conv=>whnf
 refine Both.mk ?_ ?_<;>intro b13236
 obtain ⟨h,b13236d⟩:=ctd b13236 h
 conv=>whnf
 obtain ⟨e13237,he13237,h⟩:=idxn_some h
 refine Side.mk ⟨(by omega),rfl,map_lt he13237⟩ ?_
 conv=>whnf
 refine Side.mk ⟨rfl,trivial⟩ ?_
 conv=>whnf
 refine ⟨_,map_at he13237,?_⟩
 conv=>whnf
 refine Nf.mk (List.map cI (List.set y13231 q13232 (-1:Int))) (set_map rfl) ?_
 conv=>whnf
 refine Arith.mk (by show inR _;unfold inR;omega) ?_
 conv=>whnf
 cases h
 exact Nxt.mk _ ho13235 (eA [(141,some 141),(142,some 142)])
 obtain ⟨h,b13236d⟩:=cfd b13236 h
 conv=>whnf
 cases h
 have ho13235:_=_:=ho13235
 cases ho13235
 exact Join.mk (eA [(141,some 141),(142,some 142)])
 replace h:=hk13216
 obtain ⟨z13240,z13241,_⟩:=hp
 conv=>whnf
 obtain ⟨oc,hc,hk13242⟩:=bind_some h
 clear h
 have h:=hc
 clear hc
 refine Cut.mkS oc (Y:=List Int×Bool) (fun (y13413,more13414)=>mkSt [(3,.im (.ref (c_api_Part p_))),(8,.im (nI (↑(List.length p_.Next):Int))),(9,.osl 141 1),(11,.im (nB more13414)),(12,.im (nI (↑a12839:Int)))] [(141,.row 3 1 (List.map cI y13413))] []) (fun (y13413,more13414)=>lZ y13413∧True) (by rintro ⟨y13413,more13414⟩;exact ((Holds.kdl 141 rfl).and (hT))) ?_ ?_
 conv=>whnf
 refine Loops.iter (fun (s:List Int×Nat)=>R35_Classes.s198 p_ y12837 more12838 a12839 s.1 s.2) (fun (y13470,q13471)=>mkSt [(3,.im (.ref (c_api_Part p_))),(8,.im (nI (↑(List.length p_.Next):Int))),(9,.osl 141 1),(11,.im (nB more12838)),(12,.im (nI (↑a12839:Int))),(13,.osl 142 1),(15,.im (nI (↑q13471:Int)))] [(141,.row 3 1 (List.map cI y12837)),(142,.row 3 1 (List.map cI y13470))] []) (fun (y13470,q13471)=>lZ y12837∧lZ y13470∧True) h (eA [(141,some 141),(142,some 142)]) (by rintro ⟨y13470,q13471⟩;exact ((Holds.kdl 141 rfl).and ((Holds.kdl 142 rfl).and (hT)))) ?_
 clear h
 rintro k ⟨y13470,q13471⟩ o hp h ho13527
 replace h:R35_Classes.s198 p_ y12837 more12838 a12839 y13470 q13471=some o:=h
 unfold R35_Classes.s198 at h
 obtain ⟨z13583,z13584,_⟩:=hp
 conv=>whnf
 refine Both.mk ?_ ?_<;>intro b13528
 obtain ⟨h,b13528d⟩:=ctd b13528 h
 conv=>whnf
 obtain ⟨oc,hc,hk13529⟩:=bind_some h
 clear h
 have h:=hc
 clear hc
 refine Cut.mkS oc (Y:=List Int) (fun y13555=>mkSt [(3,.im (.ref (c_api_Part p_))),(8,.im (nI (↑(List.length p_.Next):Int))),(9,.osl 141 1),(11,.im (nB more12838)),(12,.im (nI (↑a12839:Int))),(13,.osl 142 1),(15,.im (nI (↑q13471:Int)))] [(141,.row 3 1 (List.map cI y12837)),(142,.row 3 1 (List.map cI y13555))] []) (fun y13555=>lZ y12837∧lZ y13555∧True) (by rintro y13555;exact ((Holds.kdl 141 rfl).and ((Holds.kdl 142 rfl).and (hT)))) ?_ ?_
 conv=>whnf
 obtain ⟨e13556,he13556,h⟩:=idxn_some h
 refine ⟨_,⟨(by omega),map_at he13556,rfl⟩,?_⟩
 conv=>whnf
 obtain ⟨e13557,he13557,h⟩:=idxn_some h
 refine ⟨_,⟨(by omega),map_at he13557,rfl⟩,?_⟩
 conv=>whnf
 refine Both.mk ?_ ?_<;>intro b13558
 obtain ⟨h,b13558d⟩:=ctd b13558 h
 conv=>whnf
 cases h
 exact JoinS.mk' _ rfl (eA [(141,some 141),(142,some 142)])
 obtain ⟨h,b13558d⟩:=cfd b13558 h
 conv=>whnf
 obtain ⟨e13559,he13559,h⟩:=idxn_some h
 refine Side.mk ⟨(by omega),rfl,map_lt he13559⟩ ?_
 conv=>whnf
 refine ⟨_,_,⟨rfl,map_at he13559,rfl,rfl⟩,?_⟩
 conv=>whnf
 obtain ⟨e13560,he13560z,he13560,h⟩:=idx_some h
 refine Side.mk ⟨he13560z,rfl,map_lt he13560⟩ ?_
 conv=>whnf
 refine ⟨_,_,⟨rfl,map_at he13560,rfl,rfl⟩,?_⟩
 conv=>whnf
 refine Both.mk ?_ ?_<;>intro b13561
 obtain ⟨h,b13561d⟩:=ctd b13561 h
 conv=>whnf
 obtain ⟨e13562,he13562,h⟩:=idxn_some h
 refine Side.mk ⟨(by omega),rfl,map_lt he13562⟩ ?_
 conv=>whnf
 refine ⟨_,_,⟨rfl,map_at he13562,rfl,rfl⟩,?_⟩
 conv=>whnf
 obtain ⟨e13563,he13563z,he13563,h⟩:=idx_some h
 refine Side.mk ⟨he13563z,rfl,map_lt he13563⟩ ?_
 conv=>whnf
 refine Side.mk ⟨rfl,trivial⟩ ?_
 conv=>whnf
 refine ⟨_,map_at he13563,?_⟩
 conv=>whnf
 refine Nf.mk (List.map cI (List.set y13470 e13562.toNat (↑q13471:Int))) (set_map rfl) ?_
 conv=>whnf
 cases h
 exact JoinS.mk' _ rfl (eA [(141,some 141),(142,some 142)])
 obtain ⟨h,b13561d⟩:=cfd b13561 h
 conv=>whnf
 obtain ⟨e13564,he13564z,he13564,h⟩:=idx_some h
 refine ⟨_,⟨he13564z,map_at he13564,rfl⟩,?_⟩
 conv=>whnf
 obtain ⟨e13565,he13565,h⟩:=idxn_some h
 refine ⟨_,⟨(by omega),map_at he13565,rfl⟩,?_⟩
 conv=>whnf
 obtain ⟨e13566,he13566,h⟩:=idxn_some h
 refine ⟨_,⟨(by omega),map_at he13566,rfl⟩,?_⟩
 conv=>whnf
 obtain ⟨e13567,he13567,h⟩:=idxn_some h
 refine ⟨_,⟨(by omega),map_at he13567,rfl⟩,?_⟩
 conv=>whnf
 refine Both.mk ?_ ?_<;>intro b13568
 obtain ⟨h,b13568d⟩:=ctd b13568 h
 conv=>whnf
 cases h
 replace h:some _=some _:=hk13529
 cases h
 have ho13527:_=_:=ho13527
 cases ho13527
 replace h:some _=some _:=hk13242
 cases h
 have ho13213:_=_:=ho13213
 cases ho13213
 replace h:some _=some _:=hk11339
 cases h
 have ho11337:_=_:=ho11337
 cases ho11337
 replace h:some _=some _:=hk76
 cases h
 conv=>whnf
 exact ⟨rfl,rfl⟩
 obtain ⟨h,b13568d⟩:=cfd b13568 h
 conv=>whnf
 obtain ⟨e13569,he13569z,he13569,h⟩:=idx_some h
 refine ⟨_,⟨he13569z,map_at he13569,rfl⟩,?_⟩
 conv=>whnf
 obtain ⟨e13570,he13570,h⟩:=idxn_some h
 refine ⟨_,⟨(by omega),map_at he13570,rfl⟩,?_⟩
 conv=>whnf
 obtain ⟨e13571,he13571z,he13571,h⟩:=idx_some h
 refine Side.mk ⟨he13571z,rfl,map_lt he13571⟩ ?_
 conv=>whnf
 refine ⟨_,_,⟨rfl,map_at he13571,rfl,rfl⟩,?_⟩
 conv=>whnf
 obtain ⟨e13572,he13572,h⟩:=idxn_some h
 refine ⟨_,⟨(by omega),map_at he13572,rfl⟩,?_⟩
 conv=>whnf
 obtain ⟨e13573,he13573,h⟩:=idxn_some h
 refine ⟨_,⟨(by omega),map_at he13573,rfl⟩,?_⟩
 conv=>whnf
 obtain ⟨e13574,he13574z,he13574,h⟩:=idx_some h
 refine Side.mk ⟨he13574z,rfl,map_lt he13574⟩ ?_
 conv=>whnf
 refine ⟨_,_,⟨rfl,map_at he13574,rfl,rfl⟩,?_⟩
 conv=>whnf
 refine Both.mk ?_ ?_<;>intro b13575
 obtain ⟨h,b13575d⟩:=ctd b13575 h
 conv=>whnf
 obtain ⟨e13576,he13576z,he13576,h⟩:=idx_some h
 refine ⟨_,⟨he13576z,map_at he13576,rfl⟩,?_⟩
 conv=>whnf
 obtain ⟨e13577,he13577,h⟩:=idxn_some h
 refine ⟨_,⟨(by omega),map_at he13577,rfl⟩,?_⟩
 conv=>whnf
 obtain ⟨e13578,he13578,h⟩:=idxn_some h
 refine ⟨_,⟨(by omega),map_at he13578,rfl⟩,?_⟩
 conv=>whnf
 obtain ⟨e13579,he13579,h⟩:=idxn_some h
 refine ⟨_,⟨(by omega),map_at he13579,rfl⟩,?_⟩
 conv=>whnf
 refine Side.mk ⟨rfl,trivial⟩ ?_
 conv=>whnf
 obtain ⟨c13580,hc13580,h⟩:=bind_some h
 refine ⟨_,(sp_R35_join y12837 e13577 e13579 c13580 (fun _ _ _=>hc13580)),?_⟩
 conv=>whnf
 cases h
 replace h:some _=some _:=hk13529
 cases h
 have ho13527:_=_:=ho13527
 cases ho13527
 exact JoinS.mk' _ rfl (eA [(141,some 141)])
 obtain ⟨h,b13575d⟩:=cfd b13575 h
 conv=>whnf
 cases h
 exact JoinS.mk' _ rfl (eA [(141,some 141),(142,some 142)])
 rintro y13555 rfl hp
 replace h:=sum_inl hk13529
 obtain ⟨z13581,z13582,_⟩:=hp
 conv=>whnf
 refine Arith.mk (by show inR _;unfold inR;omega) ?_
 conv=>whnf
 cases h
 exact Nxt.mk _ ho13527 (eA [(141,some 141),(142,some 142)])
 obtain ⟨h,b13528d⟩:=cfd b13528 h
 conv=>whnf
 cases h
 have ho13527:_=_:=ho13527
 cases ho13527
 exact JoinS.mk' _ rfl (eA [(141,some 141)])
 rintro ⟨y13413,more13414⟩ rfl hp
 have hx_:=sum_inl hk13242
 replace h:R35_Classes.k199 a12839 y13413 more13414=some _:=hx_
 clear hx_
 unfold R35_Classes.k199 at h
 obtain ⟨z13585,_⟩:=hp
 conv=>whnf
 obtain ⟨c13586,h⟩:=chk_some h
 refine Arith.mk c13586 ?_
 conv=>whnf
 cases h
 exact Nxt.mk _ ho13213 (eA [(141,some 141)])
 obtain ⟨h,b13214d⟩:=cfd b13214 h
 conv=>whnf
 cases h
 have ho13213:_=_:=ho13213
 cases ho13213
 exact JoinS.mk' _ rfl (eA [(141,some 141)])
 rintro ⟨y12463,more12464⟩ rfl hp
 have hx_:=sum_inl hk11339
 replace h:R35_Classes.k201 y12463 more12464=some _:=hx_
 clear hx_
 unfold R35_Classes.k201 at h
 obtain ⟨z13588,_⟩:=hp
 conv=>whnf
 cases h
 exact Nxt.mk _ ho11337 (eA [(141,some 141)])
 replace h:=cond_f b11338 h
 conv=>whnf
 cases h
 have ho11337:_=_:=ho11337
 cases ho11337
 exact JoinS.mk' _ rfl (eA [(141,some 141)])
 rintro y6833 rfl hp
 replace h:=sum_inl hk76
 obtain ⟨z13590,_⟩:=hp
 conv=>whnf
 cases h
 conv=>whnf
 exact Side.mk ⟨rfl,trivial⟩ ⟨rfl,rfl⟩
theorem sp_R35_Fold (p_:T_api_Part) (s_:Int) (t_:Int) (r:T_api_Part×Bool×Int) (h:Ok (.agg (c_api_Part p_))→Ok (nI s_)→Ok (nI t_)→R35_Fold p_ s_ t_=some r):Sp Tryz.prog 12 [.im (.agg (c_api_Part p_)),.im (nI s_),.im (nI t_)] (.tup [.agg (c_api_Part r.1),nB r.2.1,nI r.2.2]):=by
 refine sp_of rfl [700003] rfl rfl rfl (Nat.le_of_ble_eq_true rfl) rfl fun hk=>?_
 replace h:=h hk.1 hk.2.1 hk.2.2.1
 have z1:lZ p_.Next:=ok_len (Ok.agg_at hk.1 2 rfl)
 have z2:lZ p_.Out:=ok_len (Ok.agg_at hk.1 3 rfl)
 unfold R35_Fold at h
 conv=>whnf
 obtain ⟨c51,hc51,h⟩:=bind_some h
 refine ⟨_,(sp_R35_Valid p_ c51 (fun _=>hc51)),?_⟩
 conv=>whnf
 refine Both.mk ?_ ?_<;>intro b52
 obtain ⟨h,b52d⟩:=ctd b52 h
 conv=>whnf
 obtain ⟨c53,hc53,h⟩:=bind_some h
 refine ⟨_,(sp_R35_Valid p_ c53 (fun _=>hc53)),?_⟩
 conv=>whnf
 refine Side.mk rfl ?_
 conv=>whnf
 cases h
 conv=>whnf
 refine Side.mk ⟨rfl,trivial⟩ ?_
 conv=>whnf
 exact ⟨rfl,rfl⟩
 obtain ⟨h,b52d⟩:=cfd b52 h
 conv=>whnf
 obtain ⟨y59,hc,hk55⟩:=bind_some h
 clear h
 have h:=hc
 clear hc
 refine Cut.mk (mkSt [(1,.im (nI s_)),(2,.im (nI t_)),(3,.im (.ref (c_api_Part p_))),(6,.own 64 1 0),(38,.im (nB y59))] [(64,.box 24 4)] [(64,0,.im (nI 0)),(64,1,.im (nI 0)),(64,2,.im (.val (.slice none 0 0))),(64,3,.im (.val (.slice none 0 0)))]) (True) (hT) ?_ (fun hp=>?_)
 conv=>whnf
 refine Both.mk ?_ ?_<;>intro b60
 replace b60:=beq_ff b60
 obtain ⟨h,b60d⟩:=cfd b60 h
 conv=>whnf
 iterate 3 (refine Both.yes (ff_beq b60) ?_;(conv=>whnf))
 refine Nf.mk (List.length p_.Next) len_map ?_
 conv=>whnf
 refine Both.yes (ff_beq b60) ?_
 conv=>whnf
 refine Both.no b60 ?_
 conv=>whnf
 refine Both.mk ?_ ?_<;>intro b61
 replace b61:=beq_ff b61
 obtain ⟨h,b61d⟩:=cfd b61 h
 conv=>whnf
 refine Both.yes (ff_beq b61) ?_
 conv=>whnf
 refine Both.no b61 ?_
 conv=>whnf
 refine Both.mk ?_ ?_<;>intro b62
 replace b62:=beq_ff b62
 obtain ⟨h,b62d⟩:=cfd b62 h
 conv=>whnf
 iterate 3 (refine Both.yes (ff_beq b62) ?_;(conv=>whnf))
 refine Nf.mk (List.length p_.Next) len_map ?_
 conv=>whnf
 refine Both.yes (ff_beq b62) ?_
 conv=>whnf
 refine Both.no b62 ?_
 conv=>whnf
 cases h
 exact Join.mk (eA [(64,some 6)])
 replace b62:=beq_ft b62
 obtain ⟨h,b62d⟩:=ctd b62 h
 conv=>whnf
 iterate 4 (refine Both.no (tf_beq b62) ?_;(conv=>whnf))
 refine Both.yes b62 ?_
 conv=>whnf
 cases h
 exact Join.mk (eA [(64,some 6)])
 replace b61:=beq_ft b61
 obtain ⟨h,b61d⟩:=ctd b61 h
 conv=>whnf
 refine Both.no (tf_beq b61) ?_
 conv=>whnf
 refine Both.yes b61 ?_
 conv=>whnf
 iterate 5 (refine Both.no rfl ?_;(conv=>whnf))
 refine Both.yes rfl ?_
 conv=>whnf
 cases h
 exact Join.mk (eA [(64,some 6)])
 replace b60:=beq_ft b60
 obtain ⟨h,b60d⟩:=ctd b60 h
 conv=>whnf
 iterate 4 (refine Both.no (tf_beq b60) ?_;(conv=>whnf))
 refine Both.yes b60 ?_
 conv=>whnf
 iterate 2 (refine Both.no rfl ?_;(conv=>whnf))
 refine Both.yes rfl ?_
 conv=>whnf
 iterate 5 (refine Both.no rfl ?_;(conv=>whnf))
 refine Both.yes rfl ?_
 conv=>whnf
 cases h
 exact Join.mk (eA [(64,some 6)])
 replace h:=hk55
 conv=>whnf
 refine Both.mk ?_ ?_<;>intro b63
 replace h:=cond_t b63 h
 conv=>whnf
 refine Side.mk rfl ?_
 conv=>whnf
 cases h
 conv=>whnf
 refine Side.mk ⟨rfl,trivial⟩ ?_
 conv=>whnf
 exact ⟨rfl,rfl⟩
 replace h:=cond_f b63 h
 conv=>whnf
 obtain ⟨c64,hc64,h⟩:=bind_some h
 refine ⟨_,(sp_R35_Classes p_ s_ t_ c64 (fun _ _ _=>hc64)),?_⟩
 conv=>whnf
 refine Both.mk ?_ ?_<;>intro b65
 replace h:=cond_t b65 h
 conv=>whnf
 refine Side.mk rfl ?_
 conv=>whnf
 cases h
 conv=>whnf
 refine Side.mk ⟨rfl,trivial⟩ ?_
 conv=>whnf
 exact ⟨rfl,rfl⟩
 replace h:=cond_f b65 h
 conv=>whnf
 refine Side.mk ⟨rfl,trivial⟩ ?_
 conv=>whnf
 obtain ⟨c66,hc66,h⟩:=bind_some h
 refine ⟨_,(sp_R35_Folded p_ c64.1 c66 (fun _ _=>hc66)),?_⟩
 conv=>whnf
 refine Side.mk rfl ?_
 conv=>whnf
 refine Side.mk rfl ?_
 conv=>whnf
 refine Side.mk rfl ?_
 conv=>whnf
 cases h
 conv=>whnf
 refine Side.mk ⟨rfl,trivial⟩ ?_
 conv=>whnf
 exact ⟨rfl,rfl⟩
theorem sp_R35_Complete (p_:T_api_Part) (out_:Int) (r:T_api_Mealy×Int) (h:Ok (.agg (c_api_Part p_))→Ok (nI out_)→R35_Complete p_ out_=some r):Sp Tryz.prog 14 [.im (.agg (c_api_Part p_)),.im (nI out_)] (.tup [.agg (c_api_Mealy r.1),nI r.2]):=by
 refine sp_of rfl [44,51,700002] rfl rfl rfl (Nat.le_of_ble_eq_true rfl) rfl fun hk=>?_
 replace h:=h hk.1 hk.2.1
 have z1:lZ p_.Next:=ok_len (Ok.agg_at hk.1 2 rfl)
 have z2:lZ p_.Out:=ok_len (Ok.agg_at hk.1 3 rfl)
 unfold R35_Complete at h
 conv=>whnf
 obtain ⟨c51,hc51,h⟩:=bind_some h
 refine ⟨_,(sp_R35_Valid p_ c51 (fun _=>hc51)),?_⟩
 conv=>whnf
 refine Both.mk ?_ ?_<;>intro b52
 obtain ⟨h,b52d⟩:=ctd b52 h
 conv=>whnf
 obtain ⟨c53,hc53,h⟩:=bind_some h
 refine ⟨_,(sp_R35_Valid p_ c53 (fun _=>hc53)),?_⟩
 conv=>whnf
 refine Side.mk rfl ?_
 conv=>whnf
 cases h
 conv=>whnf
 refine Side.mk ⟨rfl,trivial⟩ ?_
 conv=>whnf
 exact ⟨rfl,rfl⟩
 obtain ⟨h,b52d⟩:=cfd b52 h
 conv=>whnf
 obtain ⟨y57,hc,hk55⟩:=bind_some h
 clear h
 have h:=hc
 clear hc
 refine Cut.mk (mkSt [(1,.im (nI out_)),(2,.im (.ref (c_api_Part p_))),(4,.own 90 1 0),(18,.im (nB y57))] [(90,.box 37 4)] [(90,0,.im (nI 0)),(90,1,.im (nI 0)),(90,2,.im (.val (.slice none 0 0))),(90,3,.im (.val (.slice none 0 0)))]) (True) (hT) ?_ (fun hp=>?_)
 conv=>whnf
 refine Both.mk ?_ ?_<;>intro b58
 replace b58:=beq_ff b58
 obtain ⟨h,b58d⟩:=cfd b58 h
 conv=>whnf
 refine Both.yes (ff_beq b58) ?_
 conv=>whnf
 refine Both.no b58 ?_
 conv=>whnf
 cases h
 exact Join.mk (eA [(90,some 4)])
 replace b58:=beq_ft b58
 obtain ⟨h,b58d⟩:=ctd b58 h
 conv=>whnf
 refine Both.no (tf_beq b58) ?_
 conv=>whnf
 refine Both.yes b58 ?_
 conv=>whnf
 cases h
 exact Join.mk (eA [(90,some 4)])
 replace h:=hk55
 conv=>whnf
 refine Both.mk ?_ ?_<;>intro b59
 replace h:=cond_t b59 h
 conv=>whnf
 refine Side.mk rfl ?_
 conv=>whnf
 cases h
 conv=>whnf
 refine Side.mk ⟨rfl,trivial⟩ ?_
 conv=>whnf
 exact ⟨rfl,rfl⟩
 replace h:=cond_f b59 h
 conv=>whnf
 refine Nf.mk (List.length p_.Next) len_map ?_
 conv=>whnf
 refine Both.mk ?_ ?_<;>intro b60
 obtain ⟨h,b60d⟩:=ctd b60 h
 conv=>whnf
 refine Side.mk rfl ?_
 conv=>whnf
 cases h
 conv=>whnf
 refine Side.mk ⟨rfl,trivial⟩ ?_
 conv=>whnf
 exact ⟨rfl,rfl⟩
 obtain ⟨h,b60d⟩:=cfd b60 h
 conv=>whnf
 refine Side.mk rfl ?_
 conv=>whnf
 obtain ⟨⟨y264,y265⟩,hc,hk61⟩:=bind_some h
 clear h
 have h:=hc
 clear hc
 refine Cut.mk (mkSt [(4,.own 90 1 0),(6,.own 91 1 0)] [(90,.box 37 4),(91,.box 37 4),(92,.row 25 1 (List.map (cL cI) y264)),(93,.row 25 1 (List.map (cL cI) y265))] [(90,0,.im (nI 0)),(90,1,.im (nI 0)),(90,2,.im (.val (.slice none 0 0))),(90,3,.im (.val (.slice none 0 0))),(91,0,.im (nI p_.Inputs)),(91,1,.im (nI p_.Start)),(91,2,.osl 92 1),(91,3,.osl 93 1)]) (lZ y264∧lZ y265∧True) ((Holds.kdl 92 rfl).and ((Holds.kdl 93 rfl).and (hT))) ?_ (fun hp=>?_)
 conv=>whnf
 refine Loops.iter (fun (s:List (List Int)×List (List Int)×Nat)=>R35_Complete.s20 p_ out_ s.1 s.2.1 s.2.2) (fun (y326,y327,s328)=>mkSt [(1,.im (nI out_)),(2,.im (.ref (c_api_Part p_))),(4,.own 90 1 0),(6,.own 91 1 0),(7,.im (nI (↑s328:Int)))] [(90,.box 37 4),(91,.box 37 4),(92,.row 25 1 (List.map (cL cI) y326)),(93,.row 25 1 (List.map (cL cI) y327))] [(90,0,.im (nI 0)),(90,1,.im (nI 0)),(90,2,.im (.val (.slice none 0 0))),(90,3,.im (.val (.slice none 0 0))),(91,0,.im (nI p_.Inputs)),(91,1,.im (nI p_.Start)),(91,2,.osl 92 1),(91,3,.osl 93 1)]) (fun (y326,y327,s328)=>lZ y326∧lZ y327∧True) h (Ent.mk [(90,some 90),(91,some 6),(92,none),(93,none)] rfl ⟨eI rfl rfl,eI rfl rfl,⟨.own 90 _ 0,rfl,.own rfl rfl rfl⟩,⟨.own 6 _ 0,rfl,.own rfl rfl rfl⟩,eI rfl rfl,trivial⟩ ⟨.inl ⟨90,rfl,rfl,trivial⟩,.inl ⟨6,rfl,rfl,trivial⟩,.inr ⟨rfl,rfl,.inl ⟨_,_,rfl,by decide⟩⟩,.inr ⟨rfl,rfl,.inl ⟨_,_,rfl,by decide⟩⟩,trivial⟩ ⟨⟨90,.im _,rfl,rfl,.im (Sub.rfl' rfl)⟩,⟨90,.im _,rfl,rfl,.im (Sub.rfl' rfl)⟩,⟨90,.im (.val (.slice none 0 0)),rfl,rfl,.im (Sub.rfl' rfl)⟩,⟨90,.im (.val (.slice none 0 0)),rfl,rfl,.im (Sub.rfl' rfl)⟩,⟨6,.im _,rfl,rfl,.im (Sub.rfl' rfl)⟩,⟨6,.im _,rfl,rfl,.im (Sub.rfl' rfl)⟩,⟨6,.im (.val (.slice none 0 0)),rfl,rfl,.made rfl rfl⟩,⟨6,.im (.val (.slice none 0 0)),rfl,rfl,.made rfl rfl⟩,trivial⟩) (by rintro ⟨y326,y327,s328⟩;exact ((Holds.kdl 92 rfl).and ((Holds.kdl 93 rfl).and (hT)))) ?_
 clear h
 rintro k ⟨y326,y327,s328⟩ o hp h ho397
 replace h:R35_Complete.s20 p_ out_ y326 y327 s328=some o:=h
 unfold R35_Complete.s20 at h
 obtain ⟨z466,z467,_⟩:=hp
 conv=>whnf
 refine Nf.mk (List.length p_.Next) len_map ?_
 conv=>whnf
 refine Both.mk ?_ ?_<;>intro b398
 obtain ⟨h,b398d⟩:=ctd b398 h
 conv=>whnf
 obtain ⟨e399,he399,h⟩:=idxn_some h
 refine ⟨_,⟨(by omega),map_at he399,rfl⟩,?_⟩
 conv=>whnf
 obtain ⟨c400,h⟩:=chk_some h
 refine Side.mk ⟨rfl,map_len (l:=e399) (c:=cI) fun _=>rfl,show capOk _ 8 by simpa only [List.length_map,List.length_cons,List.length_nil,Nat.zero_add] using c400⟩ ?_
 conv=>whnf
 refine Nf.mk (List.map cI ([]++e399)) (app_map (l:=[]) (m:=e399) (c:=cI)) ?_
 conv=>whnf
 obtain ⟨e401,he401,h⟩:=idxn_some h
 refine ⟨_,⟨(by omega),map_at he401,rfl⟩,?_⟩
 conv=>whnf
 obtain ⟨c402,h⟩:=chk_some h
 refine Side.mk ⟨rfl,map_len (l:=e401) (c:=cI) fun _=>rfl,show capOk _ 8 by simpa only [List.length_map,List.length_cons,List.length_nil,Nat.zero_add] using c402⟩ ?_
 conv=>whnf
 refine Nf.mk (List.map cI ([]++e401)) (app_map (l:=[]) (m:=e401) (c:=cI)) ?_
 conv=>whnf
 obtain ⟨⟨y431,y432⟩,hc,hk403⟩:=bind_some h
 clear h
 have h:=hc
 clear hc
 refine Cut.mk (mkSt [(1,.im (nI out_)),(2,.im (.ref (c_api_Part p_))),(4,.own 90 1 0),(6,.own 91 1 0),(7,.im (nI (↑s328:Int))),(8,.osl 94 1),(9,.osl 95 1)] [(90,.box 37 4),(91,.box 37 4),(92,.row 25 1 (List.map (cL cI) y326)),(93,.row 25 1 (List.map (cL cI) y327)),(94,.row 3 1 (List.map cI y431)),(95,.row 3 1 (List.map cI y432))] [(90,0,.im (nI 0)),(90,1,.im (nI 0)),(90,2,.im (.val (.slice none 0 0))),(90,3,.im (.val (.slice none 0 0))),(91,0,.im (nI p_.Inputs)),(91,1,.im (nI p_.Start)),(91,2,.osl 92 1),(91,3,.osl 93 1)]) (lZ y326∧lZ y327∧lZ y431∧lZ y432∧True) ((Holds.kdl 92 rfl).and ((Holds.kdl 93 rfl).and ((Holds.kdl 94 rfl).and ((Holds.kdl 95 rfl).and (hT))))) ?_ (fun hp=>?_)
 conv=>whnf
 refine Loops.iter (fun (s:List Int×List Int×Nat)=>R35_Complete.s18 p_ out_ s328 s.1 s.2.1 s.2.2) (fun (y438,y439,a440)=>mkSt [(1,.im (nI out_)),(2,.im (.ref (c_api_Part p_))),(4,.own 90 1 0),(6,.own 91 1 0),(7,.im (nI (↑s328:Int))),(8,.osl 94 1),(9,.osl 95 1),(10,.im (nI (↑a440:Int)))] [(90,.box 37 4),(91,.box 37 4),(92,.row 25 1 (List.map (cL cI) y326)),(93,.row 25 1 (List.map (cL cI) y327)),(94,.row 3 1 (List.map cI y438)),(95,.row 3 1 (List.map cI y439))] [(90,0,.im (nI 0)),(90,1,.im (nI 0)),(90,2,.im (.val (.slice none 0 0))),(90,3,.im (.val (.slice none 0 0))),(91,0,.im (nI p_.Inputs)),(91,1,.im (nI p_.Start)),(91,2,.osl 92 1),(91,3,.osl 93 1)]) (fun (y438,y439,a440)=>lZ y326∧lZ y327∧lZ y438∧lZ y439∧True) h (eA [(90,some 90),(91,some 91),(92,some 92),(93,some 93),(94,some 44),(95,some 51)]) (by rintro ⟨y438,y439,a440⟩;exact ((Holds.kdl 92 rfl).and ((Holds.kdl 93 rfl).and ((Holds.kdl 94 rfl).and ((Holds.kdl 95 rfl).and (hT)))))) ?_
 clear h
 rintro k ⟨y438,y439,a440⟩ o hp h ho448
 replace h:R35_Complete.s18 p_ out_ s328 y438 y439 a440=some o:=h
 unfold R35_Complete.s18 at h
 obtain ⟨z456,z457,z458,z459,_⟩:=hp
 conv=>whnf
 refine Both.mk ?_ ?_<;>intro b449
 obtain ⟨h,b449d⟩:=ctd b449 h
 conv=>whnf
 obtain ⟨e450,he450,h⟩:=idxn_some h
 refine Side.mk ⟨(by omega),rfl,map_lt he450⟩ ?_
 conv=>whnf
 refine ⟨_,_,⟨rfl,map_at he450,rfl,rfl⟩,?_⟩
 conv=>whnf
 refine Both.mk ?_ ?_<;>intro b451
 obtain ⟨h,b451d⟩:=ctd b451 h
 conv=>whnf
 obtain ⟨e452,he452,h⟩:=idxn_some h
 refine Side.mk ⟨(by omega),rfl,map_lt he452⟩ ?_
 conv=>whnf
 refine Side.mk ⟨rfl,trivial⟩ ?_
 conv=>whnf
 refine ⟨_,map_at he452,?_⟩
 conv=>whnf
 refine Nf.mk (List.map cI (List.set y438 a440 (↑s328:Int))) (set_map rfl) ?_
 conv=>whnf
 obtain ⟨e453,he453,h⟩:=idxn_some h
 refine Side.mk ⟨(by omega),rfl,map_lt he453⟩ ?_
 conv=>whnf
 refine Side.mk ⟨rfl,trivial⟩ ?_
 conv=>whnf
 refine ⟨_,map_at he453,?_⟩
 conv=>whnf
 refine Nf.mk (List.map cI (List.set y439 a440 out_)) (set_map rfl) ?_
 conv=>whnf
 obtain ⟨c454,h⟩:=chk_some h
 refine Arith.mk c454 ?_
 conv=>whnf
 cases h
 exact Nxt.mk _ ho448 (eA [(90,some 90),(91,some 91),(92,some 92),(93,some 93),(94,some 94),(95,some 95)])
 obtain ⟨h,b451d⟩:=cfd b451 h
 conv=>whnf
 obtain ⟨c455,h⟩:=chk_some h
 refine Arith.mk c455 ?_
 conv=>whnf
 cases h
 exact Nxt.mk _ ho448 (eA [(90,some 90),(91,some 91),(92,some 92),(93,some 93),(94,some 94),(95,some 95)])
 obtain ⟨h,b449d⟩:=cfd b449 h
 conv=>whnf
 cases h
 have ho448:_=_:=ho448
 cases ho448
 exact Join.mk (eA [(90,some 90),(91,some 91),(92,some 92),(93,some 93),(94,some 94),(95,some 95)])
 replace h:R35_Complete.k19 y326 y327 s328 y431 y432=some _:=hk403
 unfold R35_Complete.k19 at h
 obtain ⟨z460,z461,z462,z463,_⟩:=hp
 conv=>whnf
 refine Side.mk rfl ?_
 conv=>whnf
 refine Side.mk rfl ?_
 conv=>whnf
 refine Side.mk ⟨rfl,trivial⟩ ?_
 conv=>whnf
 obtain ⟨c464,h⟩:=chk_some h
 refine Side.mk ⟨rfl,map_len (l:=[y431]) (c:=cL cI) fun _=>rfl,show capOk _ 24 by simpa only [List.length_map,List.length_cons,List.length_nil,Nat.zero_add] using c464⟩ ?_
 conv=>whnf
 refine Nf.mk (List.map (cL cI) (y326++[y431])) (app_map (l:=y326) (m:=[y431]) (c:=cL cI)) ?_
 conv=>whnf
 refine Side.mk rfl ?_
 conv=>whnf
 refine Side.mk rfl ?_
 conv=>whnf
 refine Side.mk rfl ?_
 conv=>whnf
 refine Side.mk rfl ?_
 conv=>whnf
 refine Side.mk ⟨rfl,trivial⟩ ?_
 conv=>whnf
 obtain ⟨c465,h⟩:=chk_some h
 refine Side.mk ⟨rfl,map_len (l:=[y432]) (c:=cL cI) fun _=>rfl,show capOk _ 24 by simpa only [List.length_map,List.length_cons,List.length_nil,Nat.zero_add] using c465⟩ ?_
 conv=>whnf
 refine Nf.mk (List.map (cL cI) (y327++[y432])) (app_map (l:=y327) (m:=[y432]) (c:=cL cI)) ?_
 conv=>whnf
 refine Side.mk rfl ?_
 conv=>whnf
 refine Side.mk rfl ?_
 conv=>whnf
 refine Arith.mk (by show inR _;unfold inR;omega) ?_
 conv=>whnf
 cases h
 exact Nxt.mk _ ho397 (eA [(90,some 90),(91,some 91),(92,some 92),(93,some 93)])
 obtain ⟨h,b398d⟩:=cfd b398 h
 conv=>whnf
 cases h
 have ho397:_=_:=ho397
 cases ho397
 exact Join.mk (eA [(90,some 90),(91,some 91),(92,some 92),(93,some 93)])
 replace h:R35_Complete.k21 p_ y264 y265=some _:=hk61
 unfold R35_Complete.k21 at h
 obtain ⟨z468,z469,_⟩:=hp
 conv=>whnf
 refine Side.mk rfl ?_
 conv=>whnf
 refine Side.mk rfl ?_
 conv=>whnf
 cases h
 conv=>whnf
 refine Side.mk ⟨rfl,trivial⟩ ?_
 conv=>whnf
 exact Side.mk ⟨rfl,rfl,trivial⟩ ⟨rfl,rfl⟩
theorem sp_R06_Ints (a_:List Int) (b_:List Int) (r:Bool) (h:Ok (nL cI a_)→Ok (nL cI b_)→R06_Ints a_ b_=some r):Sp Tryz.prog 70 [.im (nL cI a_),.im (nL cI b_)] (.im (nB r)):=by
 refine sp_of rfl [] rfl rfl rfl (Nat.le_of_ble_eq_true rfl) rfl fun hk=>?_
 replace h:=h hk.1 hk.2.1
 have z1:lZ a_:=ok_len hk.1
 have z2:lZ b_:=ok_len hk.2.1
 unfold R06_Ints at h
 conv=>whnf
 refine Nf.mk (List.length a_) len_map ?_
 conv=>whnf
 refine Nf.mk (List.length b_) len_map ?_
 conv=>whnf
 refine Both.mk ?_ ?_<;>intro b51
 obtain ⟨h,b51d⟩:=ctd b51 h
 conv=>whnf
 cases h
 conv=>whnf
 exact ⟨rfl,rfl⟩
 obtain ⟨h,b51d⟩:=cfd b51 h
 conv=>whnf
 obtain ⟨oc,hc,hk52⟩:=bind_some h
 clear h
 have h:=hc
 clear hc
 refine Cut.mkS oc (Y:=Unit) (fun (_:Unit)=>mkSt [] [] []) (fun (_:Unit)=>True) (by rintro ⟨⟩;exact (hT)) ?_ ?_
 conv=>whnf
 refine Loops.iter (fun (s:Nat)=>R06_Ints.s2 a_ b_ s) (fun i73=>mkSt [(0,.im (nL cI a_)),(1,.im (nL cI b_)),(5,.im (nI (↑i73:Int)))] [] []) (fun i73=>lZ a_∧lZ b_∧True) h (eA []) (by rintro i73;exact ((Holds.avl 0 rfl).and ((Holds.avl 1 rfl).and (hT)))) ?_
 clear h
 rintro k i73 o hp h ho78
 replace h:R06_Ints.s2 a_ b_ i73=some o:=h
 unfold R06_Ints.s2 at h
 obtain ⟨z83,z84,_⟩:=hp
 conv=>whnf
 refine Nf.mk (List.length a_) len_map ?_
 conv=>whnf
 refine Both.mk ?_ ?_<;>intro b79
 obtain ⟨h,b79d⟩:=ctd b79 h
 conv=>whnf
 obtain ⟨e80,he80,h⟩:=idxn_some h
 refine ⟨_,⟨(by omega),map_at he80,rfl⟩,?_⟩
 conv=>whnf
 obtain ⟨e81,he81,h⟩:=idxn_some h
 refine ⟨_,⟨(by omega),map_at he81,rfl⟩,?_⟩
 conv=>whnf
 refine Both.mk ?_ ?_<;>intro b82
 obtain ⟨h,b82d⟩:=ctd b82 h
 conv=>whnf
 cases h
 have ho78:_=_:=ho78
 cases ho78
 replace h:some _=some _:=hk52
 cases h
 conv=>whnf
 exact ⟨rfl,rfl⟩
 obtain ⟨h,b82d⟩:=cfd b82 h
 conv=>whnf
 refine Arith.mk (by show inR _;unfold inR;omega) ?_
 conv=>whnf
 cases h
 exact Nxt.mk _ ho78 (eA [])
 obtain ⟨h,b79d⟩:=cfd b79 h
 conv=>whnf
 cases h
 have ho78:_=_:=ho78
 cases ho78
 exact JoinS.mk' _ rfl (eA [])
 rintro ⟨⟩ rfl hp
 replace h:=sum_inl hk52
 conv=>whnf
 cases h
 conv=>whnf
 exact ⟨rfl,rfl⟩
theorem sp_R06_Lists (a_:List (List Int)) (b_:List (List Int)) (r:Bool) (h:Ok (nL (cL cI) a_)→Ok (nL (cL cI) b_)→R06_Lists a_ b_=some r):Sp Tryz.prog 38 [.im (nL (cL cI) a_),.im (nL (cL cI) b_)] (.im (nB r)):=by
 refine sp_of rfl [] rfl rfl rfl (Nat.le_of_ble_eq_true rfl) rfl fun hk=>?_
 replace h:=h hk.1 hk.2.1
 have z1:lZ a_:=ok_len hk.1
 have z2:lZ b_:=ok_len hk.2.1
 unfold R06_Lists at h
 conv=>whnf
 refine Nf.mk (List.length a_) len_map ?_
 conv=>whnf
 refine Nf.mk (List.length b_) len_map ?_
 conv=>whnf
 refine Both.mk ?_ ?_<;>intro b51
 obtain ⟨h,b51d⟩:=ctd b51 h
 conv=>whnf
 cases h
 conv=>whnf
 exact ⟨rfl,rfl⟩
 obtain ⟨h,b51d⟩:=cfd b51 h
 conv=>whnf
 obtain ⟨oc,hc,hk52⟩:=bind_some h
 clear h
 have h:=hc
 clear hc
 refine Cut.mkS oc (Y:=Unit) (fun (_:Unit)=>mkSt [] [] []) (fun (_:Unit)=>True) (by rintro ⟨⟩;exact (hT)) ?_ ?_
 conv=>whnf
 refine Loops.iter (fun (s:Nat)=>R06_Lists.s2 a_ b_ s) (fun i77=>mkSt [(0,.im (nL (cL cI) a_)),(1,.im (nL (cL cI) b_)),(5,.im (nI (↑i77:Int)))] [] []) (fun i77=>lZ a_∧lZ b_∧True) h (eA []) (by rintro i77;exact ((Holds.avl 0 rfl).and ((Holds.avl 1 rfl).and (hT)))) ?_
 clear h
 rintro k i77 o hp h ho83
 replace h:R06_Lists.s2 a_ b_ i77=some o:=h
 unfold R06_Lists.s2 at h
 obtain ⟨z89,z90,_⟩:=hp
 conv=>whnf
 refine Nf.mk (List.length a_) len_map ?_
 conv=>whnf
 refine Both.mk ?_ ?_<;>intro b84
 obtain ⟨h,b84d⟩:=ctd b84 h
 conv=>whnf
 obtain ⟨e85,he85,h⟩:=idxn_some h
 refine ⟨_,⟨(by omega),map_at he85,rfl⟩,?_⟩
 conv=>whnf
 obtain ⟨e86,he86,h⟩:=idxn_some h
 refine ⟨_,⟨(by omega),map_at he86,rfl⟩,?_⟩
 conv=>whnf
 obtain ⟨c87,hc87,h⟩:=bind_some h
 refine ⟨_,(sp_R06_Ints e85 e86 c87 (fun _ _=>hc87)),?_⟩
 conv=>whnf
 refine Both.mk ?_ ?_<;>intro b88
 replace h:=cond_t b88 h
 conv=>whnf
 cases h
 have ho83:_=_:=ho83
 cases ho83
 replace h:some _=some _:=hk52
 cases h
 conv=>whnf
 exact ⟨rfl,rfl⟩
 replace h:=cond_f b88 h
 conv=>whnf
 refine Arith.mk (by show inR _;unfold inR;omega) ?_
 conv=>whnf
 cases h
 exact Nxt.mk _ ho83 (eA [])
 obtain ⟨h,b84d⟩:=cfd b84 h
 conv=>whnf
 cases h
 have ho83:_=_:=ho83
 cases ho83
 exact JoinS.mk' _ rfl (eA [])
 rintro ⟨⟩ rfl hp
 replace h:=sum_inl hk52
 conv=>whnf
 cases h
 conv=>whnf
 exact ⟨rfl,rfl⟩
end Go.Proofs.YteigfkncoiiaiaaGreatDoor.Sym

/-
  The contracts of the functions, read from the code by a program (ext.py): each function has its plain twin as its contract.
-/
namespace Go.Proofs.YteigfkncoiiaiaaGreatDoor.Sym
open Go.RowKit
set_option maxRecDepth 100000
set_option linter.unusedVariables false
set_option maxHeartbeats 4000000
theorem sp_R06_Same (a_:T_api_Mealy) (b_:T_api_Mealy) (r:Bool) (h:Ok (.agg (c_api_Mealy a_))→Ok (.agg (c_api_Mealy b_))→R06_Same a_ b_=some r):Sp Tryz.prog 19 [.im (.agg (c_api_Mealy a_)),.im (.agg (c_api_Mealy b_))] (.im (nB r)):=by
 refine sp_of rfl [700002,700003] rfl rfl rfl (Nat.le_of_ble_eq_true rfl) rfl fun hk=>?_
 replace h:=h hk.1 hk.2.1
 have z1:lZ a_.Next:=ok_len (Ok.agg_at hk.1 2 rfl)
 have z2:lZ a_.Out:=ok_len (Ok.agg_at hk.1 3 rfl)
 have z3:lZ b_.Next:=ok_len (Ok.agg_at hk.2.1 2 rfl)
 have z4:lZ b_.Out:=ok_len (Ok.agg_at hk.2.1 3 rfl)
 unfold R06_Same at h
 conv=>whnf
 obtain ⟨y58,hc,hk52⟩:=bind_some h
 clear h
 have h:=hc
 clear hc
 refine Cut.mk (mkSt [(4,.im (nB y58))] [] []) (True) (hT) ?_ (fun hp=>?_)
 conv=>whnf
 refine Both.mk ?_ ?_<;>intro b59
 replace b59:=beq_tt b59
 obtain ⟨h,b59d⟩:=ctd b59 h
 conv=>whnf
 iterate 4 (refine Both.yes (tt_beq b59) ?_;(conv=>whnf))
 refine Both.yes b59 ?_
 conv=>whnf
 refine Both.mk ?_ ?_<;>intro b60
 replace b60:=beq_tt b60
 obtain ⟨h,b60d⟩:=ctd b60 h
 conv=>whnf
 iterate 4 (refine Both.yes (tt_beq b60) ?_;(conv=>whnf))
 obtain ⟨c61,hc61,h⟩:=bind_some h
 refine ⟨_,(sp_R06_Lists a_.Next b_.Next c61 (fun _ _=>hc61)),?_⟩
 conv=>whnf
 refine Both.yes b60 ?_
 conv=>whnf
 refine Both.mk ?_ ?_<;>intro b62
 replace b62:=beq_tt b62
 replace h:=cond_t b62 h
 conv=>whnf
 iterate 4 (refine Both.yes (tt_beq b62) ?_;(conv=>whnf))
 obtain ⟨c63,hc63,h⟩:=bind_some h
 refine ⟨_,(sp_R06_Lists a_.Out b_.Out c63 (fun _ _=>hc63)),?_⟩
 conv=>whnf
 refine Both.yes b62 ?_
 conv=>whnf
 cases h
 exact Join.mk (eA [])
 replace b62:=beq_tf b62
 replace h:=cond_f b62 h
 conv=>whnf
 iterate 4 (refine Both.no (ft_beq b62) ?_;(conv=>whnf))
 refine Both.no b62 ?_
 conv=>whnf
 cases h
 exact Join.mk (eA [])
 replace b60:=beq_tf b60
 obtain ⟨h,b60d⟩:=cfd b60 h
 conv=>whnf
 iterate 4 (refine Both.no (ft_beq b60) ?_;(conv=>whnf))
 refine Both.no b60 ?_
 conv=>whnf
 iterate 6 (refine Both.no rfl ?_;(conv=>whnf))
 cases h
 exact Join.mk (eA [])
 replace b59:=beq_tf b59
 obtain ⟨h,b59d⟩:=cfd b59 h
 conv=>whnf
 iterate 4 (refine Both.no (ft_beq b59) ?_;(conv=>whnf))
 refine Both.no b59 ?_
 conv=>whnf
 iterate 12 (refine Both.no rfl ?_;(conv=>whnf))
 cases h
 exact Join.mk (eA [])
 replace h:=hk52
 conv=>whnf
 cases h
 conv=>whnf
 exact ⟨rfl,rfl⟩
theorem sp_L35_MergeParts (given_:T_learnerlaw35_Parts) (r:Bool) (h:Ok (.agg (c_learnerlaw35_Parts given_))→L35_MergeParts given_=some r):Sp Tryz.prog 3 [.im (.agg (c_learnerlaw35_Parts given_))] (.im (nB r)):=by
 refine sp_of rfl [700001] rfl rfl rfl (Nat.le_of_ble_eq_true rfl) rfl fun hk=>?_
 replace h:=h hk.1
 have z1:lZ given_.P.Next:=ok_len (Ok.agg_at hk.1 2 rfl)
 have z2:lZ given_.P.Out:=ok_len (Ok.agg_at hk.1 3 rfl)
 have z3:lZ given_.W:=ok_len (Ok.agg_at hk.1 4 rfl)
 unfold L35_MergeParts at h
 conv=>whnf
 refine Side.mk rfl ?_
 conv=>whnf
 obtain ⟨y55,hc,hk52⟩:=bind_some h
 clear h
 have h:=hc
 clear hc
 refine Cut.mk (mkSt [(3,.own 123 1 0),(4,.im (nL cI given_.W)),(5,.im (nI given_.S)),(6,.im (nI given_.T)),(7,.im (nI given_.Out)),(38,.im (nB y55))] [(123,.box 24 4)] [(123,0,.im (nI given_.P.Inputs)),(123,1,.im (nI given_.P.Start)),(123,2,.im (nL (cL cI) given_.P.Next)),(123,3,.im (nL (cL cI) given_.P.Out))]) (lZ given_.W∧lZ given_.P.Next∧lZ given_.P.Out∧True) ((Holds.avl 4 rfl).and ((Holds.cel 123 2 rfl (by decide) rfl).and ((Holds.cel 123 3 rfl (by decide) rfl).and (hT)))) ?_ (fun hp=>?_)
 conv=>whnf
 refine Side.mk rfl ?_
 conv=>whnf
 obtain ⟨c56,hc56,h⟩:=bind_some h
 refine ⟨_,(sp_R35_Great given_.P c56 (fun _=>hc56)),?_⟩
 conv=>whnf
 refine Both.mk ?_ ?_<;>intro b57
 replace b57:=beq_ff b57
 replace h:=cond_f b57 h
 conv=>whnf
 refine Both.yes (ff_beq b57) ?_
 conv=>whnf
 refine Nf.mk (List.length given_.W) len_map ?_
 conv=>whnf
 refine Both.yes (ff_beq b57) ?_
 conv=>whnf
 refine Both.no b57 ?_
 conv=>whnf
 cases h
 exact Join.mk (eA [(123,some 3)])
 replace b57:=beq_ft b57
 replace h:=cond_t b57 h
 conv=>whnf
 iterate 2 (refine Both.no (tf_beq b57) ?_;(conv=>whnf))
 refine Both.yes b57 ?_
 conv=>whnf
 cases h
 exact Join.mk (eA [(123,some 3)])
 replace h:=hk52
 obtain ⟨z58,z59,z60,_⟩:=hp
 conv=>whnf
 refine Both.mk ?_ ?_<;>intro b61
 replace h:=cond_t b61 h
 conv=>whnf
 obtain ⟨c62,hc62,h⟩:=bind_some h
 refine ⟨_,(sp_L35_awake  c62 (hc62)),?_⟩
 conv=>whnf
 cases h
 conv=>whnf
 exact ⟨rfl,rfl⟩
 replace h:=cond_f b61 h
 conv=>whnf
 refine Side.mk rfl ?_
 conv=>whnf
 obtain ⟨c63,hc63,h⟩:=bind_some h
 refine ⟨_,(sp_merge_Run given_.P given_.W c63 (fun _ _=>hc63)),?_⟩
 conv=>whnf
 refine Side.mk rfl ?_
 conv=>whnf
 obtain ⟨c64,hc64,h⟩:=bind_some h
 refine ⟨_,(sp_R35_Run given_.P given_.W c64 (fun _ _=>hc64)),?_⟩
 conv=>whnf
 refine Side.mk rfl ?_
 conv=>whnf
 obtain ⟨c65,hc65,h⟩:=bind_some h
 refine ⟨_,(sp_merge_Fold given_.P given_.S given_.T c65 (fun _ _ _=>hc65)),?_⟩
 conv=>whnf
 refine Side.mk rfl ?_
 conv=>whnf
 refine Side.mk rfl ?_
 conv=>whnf
 obtain ⟨c66,hc66,h⟩:=bind_some h
 refine ⟨_,(sp_R35_Fold given_.P given_.S given_.T c66 (fun _ _ _=>hc66)),?_⟩
 conv=>whnf
 refine Side.mk rfl ?_
 conv=>whnf
 refine Side.mk rfl ?_
 conv=>whnf
 obtain ⟨c67,hc67,h⟩:=bind_some h
 refine ⟨_,(sp_merge_Complete given_.P given_.Out c67 (fun _ _=>hc67)),?_⟩
 conv=>whnf
 refine Side.mk rfl ?_
 conv=>whnf
 refine Side.mk rfl ?_
 conv=>whnf
 obtain ⟨c68,hc68,h⟩:=bind_some h
 refine ⟨_,(sp_R35_Complete given_.P given_.Out c68 (fun _ _=>hc68)),?_⟩
 conv=>whnf
 refine Side.mk rfl ?_
 conv=>whnf
 obtain ⟨y85,hc,hk70⟩:=bind_some h
 clear h
 have h:=hc
 clear hc
 refine Cut.mk (mkSt [(2,.im (nB y85))] [] []) (True) (hT) ?_ (fun hp=>?_)
 conv=>whnf
 refine Side.mk rfl ?_
 conv=>whnf
 obtain ⟨c86,hc86,h⟩:=bind_some h
 refine ⟨_,(sp_merge_Valid given_.P c86 (fun _=>hc86)),?_⟩
 conv=>whnf
 refine Side.mk rfl ?_
 conv=>whnf
 obtain ⟨c87,hc87,h⟩:=bind_some h
 refine ⟨_,(sp_R35_Valid given_.P c87 (fun _=>hc87)),?_⟩
 conv=>whnf
 refine Both.mk ?_ ?_<;>intro b88
 replace b88:=beq_tt b88
 obtain ⟨h,b88d⟩:=ctd b88 h
 conv=>whnf
 iterate 2 (refine Both.yes (tt_beq b88) ?_;(conv=>whnf))
 obtain ⟨c89,hc89,h⟩:=bind_some h
 refine ⟨_,(sp_R01_Same c63.1 c64.1 c89 (fun _ _=>hc89)),?_⟩
 conv=>whnf
 refine Both.yes b88 ?_
 conv=>whnf
 refine Both.mk ?_ ?_<;>intro b90
 replace b90:=beq_tt b90
 replace h:=cond_t b90 h
 conv=>whnf
 iterate 2 (refine Both.yes (tt_beq b90) ?_;(conv=>whnf))
 refine Both.yes b90 ?_
 conv=>whnf
 refine Both.mk ?_ ?_<;>intro b91
 replace b91:=beq_tt b91
 replace h:=cond_t b91 h
 conv=>whnf
 refine Side.mk rfl ?_
 conv=>whnf
 refine Both.yes (tt_beq b91) ?_
 conv=>whnf
 refine Side.mk rfl ?_
 conv=>whnf
 refine Both.yes (tt_beq b91) ?_
 conv=>whnf
 obtain ⟨c92,hc92,h⟩:=bind_some h
 refine ⟨_,(sp_R35_Same c65.1 c66.1 c92 (fun _ _=>hc92)),?_⟩
 conv=>whnf
 refine Both.yes b91 ?_
 conv=>whnf
 refine Both.mk ?_ ?_<;>intro b93
 replace b93:=beq_tt b93
 replace h:=cond_t b93 h
 conv=>whnf
 iterate 2 (refine Both.yes (tt_beq b93) ?_;(conv=>whnf))
 refine Both.yes b93 ?_
 conv=>whnf
 refine Both.mk ?_ ?_<;>intro b94
 replace b94:=beq_tt b94
 replace h:=cond_t b94 h
 conv=>whnf
 iterate 2 (refine Both.yes (tt_beq b94) ?_;(conv=>whnf))
 refine Both.yes b94 ?_
 conv=>whnf
 refine Both.mk ?_ ?_<;>intro b95
 replace b95:=beq_tt b95
 obtain ⟨h,b95d⟩:=ctd b95 h
 conv=>whnf
 refine Side.mk rfl ?_
 conv=>whnf
 refine Both.yes (tt_beq b95) ?_
 conv=>whnf
 refine Side.mk rfl ?_
 conv=>whnf
 refine Both.yes (tt_beq b95) ?_
 conv=>whnf
 obtain ⟨c96,hc96,h⟩:=bind_some h
 refine ⟨_,(sp_R06_Same c67.1 c68.1 c96 (fun _ _=>hc96)),?_⟩
 conv=>whnf
 refine Both.yes b95 ?_
 conv=>whnf
 refine Both.mk ?_ ?_<;>intro b97
 replace b97:=beq_tt b97
 replace h:=cond_t b97 h
 conv=>whnf
 iterate 2 (refine Both.yes (tt_beq b97) ?_;(conv=>whnf))
 refine Both.yes b97 ?_
 conv=>whnf
 refine Both.mk ?_ ?_<;>intro b98
 replace b98:=beq_tt b98
 obtain ⟨h,b98d⟩:=ctd b98 h
 conv=>whnf
 obtain ⟨c99,hc99,h⟩:=bind_some h
 refine ⟨_,(sp_L35_awake  c99 (hc99)),?_⟩
 conv=>whnf
 refine Both.yes b98 ?_
 conv=>whnf
 cases h
 exact Join.mk (eA [])
 replace b98:=beq_tf b98
 obtain ⟨h,b98d⟩:=cfd b98 h
 conv=>whnf
 refine Both.no b98 ?_
 conv=>whnf
 cases h
 exact Join.mk (eA [])
 replace b97:=beq_tf b97
 replace h:=cond_f b97 h
 conv=>whnf
 iterate 2 (refine Both.no (ft_beq b97) ?_;(conv=>whnf))
 refine Both.no b97 ?_
 conv=>whnf
 iterate 2 (refine Both.no rfl ?_;(conv=>whnf))
 cases h
 exact Join.mk (eA [])
 replace b95:=beq_tf b95
 obtain ⟨h,b95d⟩:=cfd b95 h
 conv=>whnf
 iterate 2 (refine Both.no (ft_beq b95) ?_;(conv=>whnf))
 refine Both.no b95 ?_
 conv=>whnf
 iterate 6 (refine Both.no rfl ?_;(conv=>whnf))
 cases h
 exact Join.mk (eA [])
 replace b94:=beq_tf b94
 replace h:=cond_f b94 h
 conv=>whnf
 iterate 2 (refine Both.no (ft_beq b94) ?_;(conv=>whnf))
 refine Both.no b94 ?_
 conv=>whnf
 iterate 10 (refine Both.no rfl ?_;(conv=>whnf))
 cases h
 exact Join.mk (eA [])
 replace b93:=beq_tf b93
 replace h:=cond_f b93 h
 conv=>whnf
 iterate 2 (refine Both.no (ft_beq b93) ?_;(conv=>whnf))
 refine Both.no b93 ?_
 conv=>whnf
 iterate 14 (refine Both.no rfl ?_;(conv=>whnf))
 cases h
 exact Join.mk (eA [])
 replace b91:=beq_tf b91
 replace h:=cond_f b91 h
 conv=>whnf
 iterate 2 (refine Both.no (ft_beq b91) ?_;(conv=>whnf))
 refine Both.no b91 ?_
 conv=>whnf
 iterate 18 (refine Both.no rfl ?_;(conv=>whnf))
 cases h
 exact Join.mk (eA [])
 replace b90:=beq_tf b90
 replace h:=cond_f b90 h
 conv=>whnf
 iterate 2 (refine Both.no (ft_beq b90) ?_;(conv=>whnf))
 refine Both.no b90 ?_
 conv=>whnf
 iterate 22 (refine Both.no rfl ?_;(conv=>whnf))
 cases h
 exact Join.mk (eA [])
 replace b88:=beq_tf b88
 obtain ⟨h,b88d⟩:=cfd b88 h
 conv=>whnf
 iterate 2 (refine Both.no (ft_beq b88) ?_;(conv=>whnf))
 refine Both.no b88 ?_
 conv=>whnf
 iterate 26 (refine Both.no rfl ?_;(conv=>whnf))
 cases h
 exact Join.mk (eA [])
 replace h:=hk70
 conv=>whnf
 cases h
 conv=>whnf
 exact ⟨rfl,rfl⟩
end Go.Proofs.YteigfkncoiiaiaaGreatDoor.Sym

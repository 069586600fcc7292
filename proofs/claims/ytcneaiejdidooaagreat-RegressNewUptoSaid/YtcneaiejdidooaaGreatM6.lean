/-
  The contracts of the functions, read from the code by a program (ext.py): each function has its plain twin as its contract.
-/
import Derived.Test.YtcneaiejdidooaaGreatM5
set_option linter.all false
namespace Go.Proofs.YtcneaiejdidooaaGreat.Sym
open Go.RowKit
set_option maxRecDepth 100000
set_option linter.unusedVariables false
set_option maxHeartbeats 4000000
theorem ze8 (m_:zaa) (r:List (List (List Int))×Int) (h:Ok (.agg (zab m_))→zah m_=some r):Sp Tryz.prog 31 [.im (.agg (zab m_))] (.tup [nL (cL (cL cI)) r.1,nI r.2]):=by
 refine sp_of rfl [600022,700001,8000073] rfl rfl rfl (Nat.le_of_ble_eq_true rfl) rfl fun hk=>?_
 replace h:=h hk.1
 have z1:lZ m_.Next:=ok_len (Ok.agg_at hk.1 2 rfl)
 have z2:lZ m_.Out:=ok_len (Ok.agg_at hk.1 3 rfl)
 unfold zah at h
 conv=>whnf
 obtain ⟨c51,hc51,h⟩:=bind_some h
 refine ⟨_,(zh3 m_ c51 (fun _=>hc51)),?_⟩
 conv=>whnf
 refine Both.mk ?_ ?_<;>intro b52
 obtain ⟨h,b52d⟩:=ctd b52 h
 conv=>whnf
 cases h
 conv=>whnf
 exact ⟨rfl,rfl⟩
 obtain ⟨h,b52d⟩:=cfd b52 h
 conv=>whnf
 refine Nf.mk (List.length m_.Next) len_map ?_
 conv=>whnf
 obtain ⟨c53,h⟩:=chk_some h
 refine Side.mk c53 ?_
 conv=>whnf
 refine Nf.mk (List.map (cL (cL cI)) (List.replicate (List.length m_.Next) ([]:List (List Int)))) (rep_map (c:=(cL (cL cI))) (z:=([]:List (List Int))) (n:=(List.length m_.Next)) rfl rfl) ?_
 conv=>whnf
 refine Nf.mk (List.length m_.Next) len_map ?_
 conv=>whnf
 obtain ⟨oc,hc,hk54⟩:=bind_some h
 clear h
 have h:=hc
 clear hc
 refine Cut.mkS oc (Y:=List (List (List Int))) (fun y257=>mkSt [(5,.osl 86 1)] [(86,.grid 22 47 1 (List.map (cL (cL cI)) y257) none)] []) (fun y257=>lZ y257∧True) (by rintro y257;exact ((Holds.kdg 86 rfl).and (hT))) ?_ ?_
 conv=>whnf
 refine Loops.iter (fun (s:List (List (List Int))×Nat)=>zah.s14 m_ s.1 s.2) (fun (y324,y325)=>mkSt [(1,.im (.ref (zab m_))),(5,.osl 86 1),(25,.im (nI (↑(List.length m_.Next):Int))),(26,.im (nI (↑y325:Int)))] [(86,.grid 22 47 1 (List.map (cL (cL cI)) y324) none)] []) (fun (y324,y325)=>lZ y324∧True) h (eA [(86,some 22)]) (by rintro ⟨y324,y325⟩;exact ((Holds.kdg 86 rfl).and (hT))) ?_
 clear h
 rintro k ⟨y324,y325⟩ o hp h ho392
 replace h:zah.s14 m_ y324 y325=some o:=h
 unfold zah.s14 at h
 obtain ⟨z459,_⟩:=hp
 conv=>whnf
 refine Both.mk ?_ ?_<;>intro b393
 obtain ⟨h,b393d⟩:=ctd b393 h
 conv=>whnf
 refine Arith.mk (by show inR _;unfold inR;omega) ?_
 conv=>whnf
 obtain ⟨oc,hc,hk394⟩:=bind_some h
 clear h
 have h:=hc
 clear hc
 refine Cut.mkS oc (Y:=List (List (List Int))) (fun y426=>mkSt [(1,.im (.ref (zab m_))),(5,.osl 86 1),(25,.im (nI (↑(List.length m_.Next):Int))),(26,.im (nI (↑y325:Int)))] [(86,.grid 22 47 1 (List.map (cL (cL cI)) y426) none)] []) (fun y426=>lZ y426∧True) (by rintro y426;exact ((Holds.kdg 86 rfl).and (hT))) ?_ ?_
 conv=>whnf
 refine Loops.iter (fun (s:List (List (List Int))×Nat)=>zah.s13 m_ y325 s.1 s.2) (fun (y436,t437)=>mkSt [(1,.im (.ref (zab m_))),(5,.osl 86 1),(6,.im (nI (↑y325:Int))),(7,.im (nI (↑t437:Int))),(25,.im (nI (↑(List.length m_.Next):Int))),(26,.im (nI (↑y325:Int)))] [(86,.grid 22 47 1 (List.map (cL (cL cI)) y436) none)] []) (fun (y436,t437)=>lZ y436∧True) h (eA [(86,some 86)]) (by rintro ⟨y436,t437⟩;exact ((Holds.kdg 86 rfl).and (hT))) ?_
 clear h
 rintro k ⟨y436,t437⟩ o hp h ho447
 replace h:zah.s13 m_ y325 y436 t437=some o:=h
 unfold zah.s13 at h
 obtain ⟨z457,_⟩:=hp
 conv=>whnf
 refine Nf.mk (List.length m_.Next) len_map ?_
 conv=>whnf
 refine Both.mk ?_ ?_<;>intro b448
 obtain ⟨h,b448d⟩:=ctd b448 h
 conv=>whnf
 obtain ⟨c449,hc449,h⟩:=bind_some h
 refine ⟨_,(zke m_ (↑y325:Int) (↑t437:Int) c449 (fun _ _ _=>hc449)),?_⟩
 conv=>whnf
 refine Both.mk ?_ ?_<;>intro b450
 obtain ⟨h,b450d⟩:=ctd b450 h
 conv=>whnf
 cases h
 have ho447:_=_:=ho447
 cases ho447
 replace h:some _=some _:=hk394
 cases h
 have ho392:_=_:=ho392
 cases ho392
 replace h:some _=some _:=hk54
 cases h
 conv=>whnf
 exact ⟨rfl,rfl⟩
 obtain ⟨h,b450d⟩:=cfd b450 h
 conv=>whnf
 obtain ⟨e451,he451,h⟩:=zac h
 refine Side.mk ⟨(by omega),rfl,map_lt he451⟩ ?_
 conv=>whnf
 refine Side.mk ⟨rfl,map_lt he451⟩ ?_
 conv=>whnf
 obtain ⟨c452,h⟩:=chk_some h
 refine ⟨_,⟨rfl,map_at he451,map_len (l:=[c449.1]) (c:=cL cI) fun _=>rfl,show capOk _ 24 by simpa only [List.length_map,List.length_cons,List.length_nil,Nat.zero_add] using c452⟩,?_⟩
 conv=>whnf
 refine Nf.mk (List.map (cL cI) (e451++[c449.1])) (app_map (l:=e451) (m:=[c449.1]) (c:=cL cI)) ?_
 conv=>whnf
 obtain ⟨e453,he453,h⟩:=zac h
 refine Side.mk ⟨(by omega),rfl,map_lt he453⟩ ?_
 conv=>whnf
 refine Side.mk ⟨rfl,rfl,map_lt he453,rfl⟩ ?_
 conv=>whnf
 refine Nf.mk (List.map (cL (cL cI)) (List.set y436 y325 (e451++[c449.1]))) zjo ?_
 conv=>whnf
 obtain ⟨e454,he454,h⟩:=zac h
 refine Side.mk ⟨(by omega),rfl,map_lt he454⟩ ?_
 conv=>whnf
 refine Side.mk ⟨rfl,map_lt he454⟩ ?_
 conv=>whnf
 obtain ⟨c455,h⟩:=chk_some h
 refine ⟨_,⟨rfl,map_at he454,map_len (l:=[c449.1]) (c:=cL cI) fun _=>rfl,show capOk _ 24 by simpa only [List.length_map,List.length_cons,List.length_nil,Nat.zero_add] using c455⟩,?_⟩
 conv=>whnf
 refine Nf.mk (List.map (cL cI) (e454++[c449.1])) (app_map (l:=e454) (m:=[c449.1]) (c:=cL cI)) ?_
 conv=>whnf
 obtain ⟨e456,he456,h⟩:=zac h
 refine Side.mk ⟨(by omega),rfl,map_lt he456⟩ ?_
 conv=>whnf
 refine Side.mk ⟨rfl,rfl,map_lt he456,rfl⟩ ?_
 conv=>whnf
 refine Nf.mk (List.map (cL (cL cI)) (List.set (List.set y436 y325 (e451++[c449.1])) t437 (e454++[c449.1]))) zjo ?_
 conv=>whnf
 refine Arith.mk (by show inR _;unfold inR;omega) ?_
 conv=>whnf
 cases h
 exact Nxt.mk _ ho447 (eA [(86,some 86)])
 obtain ⟨h,b448d⟩:=cfd b448 h
 conv=>whnf
 cases h
 have ho447:_=_:=ho447
 cases ho447
 exact JoinS.mk' _ rfl (eA [(86,some 86)])
 rintro y426 rfl hp
 replace h:=sum_inl hk394
 obtain ⟨z458,_⟩:=hp
 conv=>whnf
 refine Arith.mk (by show inR _;unfold inR;omega) ?_
 conv=>whnf
 cases h
 exact Nxt.mk _ ho392 (eA [(86,some 86)])
 obtain ⟨h,b393d⟩:=cfd b393 h
 conv=>whnf
 cases h
 have ho392:_=_:=ho392
 cases ho392
 exact JoinS.mk' _ rfl (eA [(86,some 86)])
 rintro y257 rfl hp
 replace h:=sum_inl hk54
 obtain ⟨z460,_⟩:=hp
 conv=>whnf
 refine Side.mk rfl ?_
 conv=>whnf
 refine Nf.mk (List.length y257) len_map ?_
 conv=>whnf
 obtain ⟨c461,h⟩:=chk_some h
 refine Side.mk c461 ?_
 conv=>whnf
 refine Nf.mk (List.map (cL (cL cI)) []) rfl ?_
 conv=>whnf
 refine Side.mk ⟨rfl,trivial⟩ ?_
 conv=>whnf
 refine Nf.mk (List.length y257) len_map ?_
 conv=>whnf
 obtain ⟨y480,hc,hk462⟩:=bind_some h
 clear h
 have h:=hc
 clear hc
 refine Cut.mk (mkSt [(11,.osl 86 1)] [(86,.row 22 1 (List.map (cL (cL cI)) y480))] []) (lZ y480∧True) ((Holds.kdl 86 rfl).and (hT)) ?_ (fun hp=>?_)
 conv=>whnf
 refine Loops.iter (fun (s:List (List (List Int))×Nat)=>zah.s16 y257 s.1 s.2) (fun (y485,y486)=>mkSt [(11,.osl 86 1),(73,.im (nL (cL (cL cI)) y257)),(74,.im (nI (↑(List.length y257):Int))),(75,.im (nI (↑y486:Int)))] [(86,.row 22 1 (List.map (cL (cL cI)) y485))] []) (fun (y485,y486)=>lZ y257∧lZ y485∧True) h (eA [(86,some 72)]) (by rintro ⟨y485,y486⟩;exact ((Holds.avl 73 rfl).and ((Holds.kdl 86 rfl).and (hT)))) ?_
 clear h
 rintro k ⟨y485,y486⟩ o hp h ho491
 replace h:zah.s16 y257 y485 y486=some o:=h
 unfold zah.s16 at h
 obtain ⟨z496,z497,_⟩:=hp
 conv=>whnf
 refine Both.mk ?_ ?_<;>intro b492
 obtain ⟨h,b492d⟩:=ctd b492 h
 conv=>whnf
 obtain ⟨e493,he493,h⟩:=zac h
 refine ⟨_,⟨(by omega),map_at he493,rfl⟩,?_⟩
 conv=>whnf
 obtain ⟨c494,hc494,h⟩:=bind_some h
 refine ⟨_,(zey e493 c494 (fun _=>hc494)).im,?_⟩
 conv=>whnf
 obtain ⟨c495,h⟩:=chk_some h
 refine Side.mk ⟨rfl,map_len (l:=[c494]) (c:=cL (cL cI)) fun _=>rfl,show capOk _ 24 by simpa only [List.length_map,List.length_cons,List.length_nil,Nat.zero_add] using c495⟩ ?_
 conv=>whnf
 refine Nf.mk (List.map (cL (cL cI)) (y485++[c494])) (app_map (l:=y485) (m:=[c494]) (c:=cL (cL cI))) ?_
 conv=>whnf
 refine Arith.mk (by show inR _;unfold inR;omega) ?_
 conv=>whnf
 cases h
 exact Nxt.mk _ ho491 (eA [(86,some 86)])
 obtain ⟨h,b492d⟩:=cfd b492 h
 conv=>whnf
 cases h
 have ho491:_=_:=ho491
 cases ho491
 exact Join.mk (eA [(86,some 86)])
 replace h:=hk462
 obtain ⟨z498,_⟩:=hp
 conv=>whnf
 cases h
 conv=>whnf
 exact Side.mk ⟨rfl,trivial⟩ ⟨rfl,rfl⟩
theorem zki (m_:zaa) (extra_:Int) (r:List (List Int)×Int) (h:Ok (.agg (zab m_))→Ok (nI extra_)→zav m_ extra_=some r):Sp Tryz.prog 16 [.im (.agg (zab m_)),.im (nI extra_)] (.tup [nL (cL cI) r.1,nI r.2]):=by
 refine sp_of rfl [700002] rfl rfl rfl (Nat.le_of_ble_eq_true rfl) rfl fun hk=>?_
 replace h:=h hk.1 hk.2.1
 have z1:lZ m_.Next:=ok_len (Ok.agg_at hk.1 2 rfl)
 have z2:lZ m_.Out:=ok_len (Ok.agg_at hk.1 3 rfl)
 unfold zav at h
 conv=>whnf
 obtain ⟨c51,hc51,h⟩:=bind_some h
 refine ⟨_,(zbr m_ c51 (fun _=>hc51)),?_⟩
 conv=>whnf
 refine Both.mk ?_ ?_<;>intro b52
 obtain ⟨h,b52d⟩:=ctd b52 h
 conv=>whnf
 cases h
 conv=>whnf
 exact ⟨rfl,rfl⟩
 obtain ⟨h,b52d⟩:=cfd b52 h
 conv=>whnf
 obtain ⟨y56,hc,hk54⟩:=bind_some h
 clear h
 have h:=hc
 clear hc
 refine Cut.mk (mkSt [(1,.im (nI extra_)),(2,.im (.ref (zab m_))),(30,.im (nB y56))] [] []) (True) (hT) ?_ (fun hp=>?_)
 conv=>whnf
 refine Both.mk ?_ ?_<;>intro b57
 replace b57:=beq_ff b57
 obtain ⟨h,b57d⟩:=cfd b57 h
 conv=>whnf
 refine Both.yes (ff_beq b57) ?_
 conv=>whnf
 refine Both.no b57 ?_
 conv=>whnf
 cases h
 exact Join.mk (eA [])
 replace b57:=beq_ft b57
 obtain ⟨h,b57d⟩:=ctd b57 h
 conv=>whnf
 refine Both.no (tf_beq b57) ?_
 conv=>whnf
 refine Both.yes b57 ?_
 conv=>whnf
 cases h
 exact Join.mk (eA [])
 replace h:=hk54
 conv=>whnf
 refine Both.mk ?_ ?_<;>intro b58
 replace h:=cond_t b58 h
 conv=>whnf
 cases h
 conv=>whnf
 exact ⟨rfl,rfl⟩
 replace h:=cond_f b58 h
 conv=>whnf
 obtain ⟨c59,hc59,h⟩:=bind_some h
 refine ⟨_,(zd7 m_ c59 (fun _=>hc59)),?_⟩
 conv=>whnf
 refine Side.mk rfl ?_
 conv=>whnf
 refine Both.mk ?_ ?_<;>intro b60
 obtain ⟨h,b60d⟩:=ctd b60 h
 conv=>whnf
 cases h
 conv=>whnf
 exact ⟨rfl,rfl⟩
 obtain ⟨h,b60d⟩:=cfd b60 h
 conv=>whnf
 refine Side.mk rfl ?_
 conv=>whnf
 obtain ⟨c61,hc61,h⟩:=bind_some h
 refine ⟨_,(zgy c59.1 c61 (fun _=>hc61)),?_⟩
 conv=>whnf
 refine Both.mk ?_ ?_<;>intro b62
 obtain ⟨h,b62d⟩:=ctd b62 h
 conv=>whnf
 cases h
 conv=>whnf
 exact ⟨rfl,rfl⟩
 obtain ⟨h,b62d⟩:=cfd b62 h
 conv=>whnf
 refine Side.mk rfl ?_
 conv=>whnf
 refine Side.mk rfl ?_
 conv=>whnf
 obtain ⟨c63,h⟩:=chk_some h
 refine Arith.mk c63 ?_
 conv=>whnf
 obtain ⟨c64,hc64,h⟩:=bind_some h
 refine ⟨_,(zjf c59.1.Inputs (extra_+1) c64 (fun _ _=>hc64)),?_⟩
 conv=>whnf
 refine Both.mk ?_ ?_<;>intro b65
 obtain ⟨h,b65d⟩:=ctd b65 h
 conv=>whnf
 cases h
 conv=>whnf
 exact ⟨rfl,rfl⟩
 obtain ⟨h,b65d⟩:=cfd b65 h
 conv=>whnf
 refine Side.mk rfl ?_
 conv=>whnf
 obtain ⟨c66,hc66,h⟩:=bind_some h
 refine ⟨_,(ze8 c59.1 c66 (fun _=>hc66)),?_⟩
 conv=>whnf
 refine Both.mk ?_ ?_<;>intro b67
 obtain ⟨h,b67d⟩:=ctd b67 h
 conv=>whnf
 cases h
 conv=>whnf
 exact ⟨rfl,rfl⟩
 obtain ⟨h,b67d⟩:=cfd b67 h
 conv=>whnf
 refine Nf.mk (List.length c61.1) len_map ?_
 conv=>whnf
 refine Nf.mk (List.length c64.1) len_map ?_
 conv=>whnf
 obtain ⟨c68,h⟩:=chk_some h
 refine Arith.mk c68 ?_
 conv=>whnf
 obtain ⟨c69,hc69,h⟩:=bind_some h
 refine ⟨_,(zk3 c66.1 c69 (fun _=>hc69)),?_⟩
 conv=>whnf
 obtain ⟨c70,h⟩:=chk_some h
 refine Arith.mk c70 ?_
 conv=>whnf
 refine Both.mk ?_ ?_<;>intro b71
 obtain ⟨h,b71d⟩:=ctd b71 h
 conv=>whnf
 cases h
 conv=>whnf
 exact ⟨rfl,rfl⟩
 obtain ⟨h,b71d⟩:=cfd b71 h
 conv=>whnf
 refine Nf.mk (List.length c61.1) len_map ?_
 conv=>whnf
 obtain ⟨oc,hc,hk72⟩:=bind_some h
 clear h
 have h:=hc
 clear hc
 refine Cut.mkS oc (Y:=List (List Int)) (fun y298=>mkSt [(12,.osl 110 1)] [(110,.row 47 1 (List.map (cL cI) y298))] []) (fun y298=>lZ y298∧True) (by rintro y298;exact ((Holds.kdl 110 rfl).and (hT))) ?_ ?_
 conv=>whnf
 refine Loops.iter (fun (s:List (List Int)×Nat)=>zav.s14 c59 c61 c64 c66 s.1 s.2) (fun (y371,y372)=>mkSt [(7,.own 110 1 0),(10,.im (nL (cL cI) c64.1)),(11,.im (nL (cL (cL cI)) c66.1)),(12,.osl 111 1),(75,.im (nL (cL cI) c61.1)),(76,.im (nI (↑(List.length c61.1):Int))),(77,.im (nI (↑y372:Int)))] [(110,.box 24 4),(111,.row 47 1 (List.map (cL cI) y371))] [(110,0,.im (nI c59.1.Inputs)),(110,1,.im (nI c59.1.Start)),(110,2,.im (nL (cL cI) c59.1.Next)),(110,3,.im (nL (cL cI) c59.1.Out))]) (fun (y371,y372)=>lZ c64.1∧lZ c66.1∧lZ c61.1∧lZ c59.1.Next∧lZ c59.1.Out∧lZ y371∧True) h (eA [(110,some 7),(111,none)]) (by rintro ⟨y371,y372⟩;exact ((Holds.avl 10 rfl).and ((Holds.avl 11 rfl).and ((Holds.avl 75 rfl).and ((Holds.cel 110 2 rfl (by decide) rfl).and ((Holds.cel 110 3 rfl (by decide) rfl).and ((Holds.kdl 111 rfl).and (hT)))))))) ?_
 clear h
 rintro k ⟨y371,y372⟩ o hp h ho445
 replace h:zav.s14 c59 c61 c64 c66 y371 y372=some o:=h
 unfold zav.s14 at h
 obtain ⟨z518,z519,z520,z521,z522,z523,_⟩:=hp
 conv=>whnf
 refine Both.mk ?_ ?_<;>intro b446
 obtain ⟨h,b446d⟩:=ctd b446 h
 conv=>whnf
 obtain ⟨e447,he447,h⟩:=zac h
 refine ⟨_,⟨(by omega),map_at he447,rfl⟩,?_⟩
 conv=>whnf
 refine Nf.mk (List.length c64.1) len_map ?_
 conv=>whnf
 obtain ⟨oc,hc,hk448⟩:=bind_some h
 clear h
 have h:=hc
 clear hc
 refine Cut.mkS oc (Y:=List (List Int)) (fun y480=>mkSt [(7,.own 110 1 0),(10,.im (nL (cL cI) c64.1)),(11,.im (nL (cL (cL cI)) c66.1)),(12,.osl 111 1),(75,.im (nL (cL cI) c61.1)),(76,.im (nI (↑(List.length c61.1):Int))),(77,.im (nI (↑y372:Int)))] [(110,.box 24 4),(111,.row 47 1 (List.map (cL cI) y480))] [(110,0,.im (nI c59.1.Inputs)),(110,1,.im (nI c59.1.Start)),(110,2,.im (nL (cL cI) c59.1.Next)),(110,3,.im (nL (cL cI) c59.1.Out))]) (fun y480=>lZ c64.1∧lZ c66.1∧lZ c61.1∧lZ c59.1.Next∧lZ c59.1.Out∧lZ y480∧True) (by rintro y480;exact ((Holds.avl 10 rfl).and ((Holds.avl 11 rfl).and ((Holds.avl 75 rfl).and ((Holds.cel 110 2 rfl (by decide) rfl).and ((Holds.cel 110 3 rfl (by decide) rfl).and ((Holds.kdl 111 rfl).and (hT)))))))) ?_ ?_
 conv=>whnf
 refine Loops.iter (fun (s:List (List Int)×Nat)=>zav.s13 c59 c64 c66 e447 s.1 s.2) (fun (y488,y489)=>mkSt [(7,.own 110 1 0),(10,.im (nL (cL cI) c64.1)),(11,.im (nL (cL (cL cI)) c66.1)),(12,.osl 111 1),(14,.im (nL cI e447)),(75,.im (nL (cL cI) c61.1)),(76,.im (nI (↑(List.length c61.1):Int))),(77,.im (nI (↑y372:Int))),(81,.im (nL (cL cI) c64.1)),(82,.im (nI (↑(List.length c64.1):Int))),(83,.im (nI (↑y489:Int)))] [(110,.box 24 4),(111,.row 47 1 (List.map (cL cI) y488))] [(110,0,.im (nI c59.1.Inputs)),(110,1,.im (nI c59.1.Start)),(110,2,.im (nL (cL cI) c59.1.Next)),(110,3,.im (nL (cL cI) c59.1.Out))]) (fun (y488,y489)=>lZ c64.1∧lZ c66.1∧lZ e447∧lZ c61.1∧lZ c59.1.Next∧lZ c59.1.Out∧lZ y488∧True) h (eA [(110,some 110),(111,some 111)]) (by rintro ⟨y488,y489⟩;exact ((Holds.avl 10 rfl).and ((Holds.avl 11 rfl).and ((Holds.avl 14 rfl).and ((Holds.avl 75 rfl).and ((Holds.cel 110 2 rfl (by decide) rfl).and ((Holds.cel 110 3 rfl (by decide) rfl).and ((Holds.kdl 111 rfl).and (hT))))))))) ?_
 clear h
 rintro k ⟨y488,y489⟩ o hp h ho497
 replace h:zav.s13 c59 c64 c66 e447 y488 y489=some o:=h
 unfold zav.s13 at h
 obtain ⟨z505,z506,z507,z508,z509,z510,z511,_⟩:=hp
 conv=>whnf
 refine Both.mk ?_ ?_<;>intro b498
 obtain ⟨h,b498d⟩:=ctd b498 h
 conv=>whnf
 obtain ⟨e499,he499,h⟩:=zac h
 refine ⟨_,⟨(by omega),map_at he499,rfl⟩,?_⟩
 conv=>whnf
 obtain ⟨c500,hc500,h⟩:=bind_some h
 refine ⟨_,(zdv [e447,e499] c500 (fun _=>hc500)),?_⟩
 conv=>whnf
 refine Side.mk rfl ?_
 conv=>whnf
 obtain ⟨c501,hc501,h⟩:=bind_some h
 refine ⟨_,(zk2 c59.1 c66.1 c500 c501 (fun _ _ _=>hc501)),?_⟩
 conv=>whnf
 refine Both.mk ?_ ?_<;>intro b502
 obtain ⟨h,b502d⟩:=ctd b502 h
 conv=>whnf
 cases h
 have ho497:_=_:=ho497
 cases ho497
 replace h:some _=some _:=hk448
 cases h
 have ho445:_=_:=ho445
 cases ho445
 replace h:some _=some _:=hk72
 cases h
 conv=>whnf
 exact ⟨rfl,rfl⟩
 obtain ⟨h,b502d⟩:=cfd b502 h
 conv=>whnf
 obtain ⟨c503,hc503,h⟩:=bind_some h
 refine ⟨_,(zfi c500 c501.1 c503 (fun _ _=>hc503)).im,?_⟩
 conv=>whnf
 obtain ⟨c504,h⟩:=chk_some h
 refine Side.mk ⟨rfl,map_len (l:=c503) (c:=cL cI) fun _=>rfl,show capOk _ 24 by simpa only [List.length_map,List.length_cons,List.length_nil,Nat.zero_add] using c504⟩ ?_
 conv=>whnf
 refine Nf.mk (List.map (cL cI) (y488++c503)) (app_map (l:=y488) (m:=c503) (c:=cL cI)) ?_
 conv=>whnf
 refine Arith.mk (by show inR _;unfold inR;omega) ?_
 conv=>whnf
 cases h
 exact Nxt.mk _ ho497 (eA [(110,some 110),(111,some 111)])
 obtain ⟨h,b498d⟩:=cfd b498 h
 conv=>whnf
 cases h
 have ho497:_=_:=ho497
 cases ho497
 exact JoinS.mk' _ rfl (eA [(110,some 110),(111,some 111)])
 rintro y480 rfl hp
 replace h:=sum_inl hk448
 obtain ⟨z512,z513,z514,z515,z516,z517,_⟩:=hp
 conv=>whnf
 refine Arith.mk (by show inR _;unfold inR;omega) ?_
 conv=>whnf
 cases h
 exact Nxt.mk _ ho445 (eA [(110,some 110),(111,some 111)])
 obtain ⟨h,b446d⟩:=cfd b446 h
 conv=>whnf
 cases h
 have ho445:_=_:=ho445
 cases ho445
 exact JoinS.mk' _ rfl (eA [(110,some 111)])
 rintro y298 rfl hp
 replace h:=sum_inl hk72
 obtain ⟨z524,_⟩:=hp
 conv=>whnf
 refine Side.mk ⟨rfl,trivial⟩ ?_
 conv=>whnf
 obtain ⟨c525,hc525,h⟩:=bind_some h
 refine ⟨_,(zhz y298 c525 (fun _=>hc525)),?_⟩
 conv=>whnf
 cases h
 conv=>whnf
 exact ⟨rfl,rfl⟩
theorem zen (m_:zaa) (extra_:Int) (r:zbh×Int) (h:Ok (.agg (zab m_))→Ok (nI extra_)→zb7 m_ extra_=some r):Sp Tryz.prog 7 [.im (.agg (zab m_)),.im (nI extra_)] (.tup [.agg (zgq r.1),nI r.2]):=by
 refine sp_of rfl [700002] rfl rfl rfl (Nat.le_of_ble_eq_true rfl) rfl fun hk=>?_
 replace h:=h hk.1 hk.2.1
 have z1:lZ m_.Next:=ok_len (Ok.agg_at hk.1 2 rfl)
 have z2:lZ m_.Out:=ok_len (Ok.agg_at hk.1 3 rfl)
 unfold zb7 at h
 conv=>whnf
 obtain ⟨c51,hc51,h⟩:=bind_some h
 refine ⟨_,(zki m_ extra_ c51 (fun _ _=>hc51)),?_⟩
 conv=>whnf
 refine Both.mk ?_ ?_<;>intro b52
 obtain ⟨h,b52d⟩:=ctd b52 h
 conv=>whnf
 refine Side.mk rfl ?_
 conv=>whnf
 cases h
 conv=>whnf
 refine Side.mk ⟨rfl,trivial⟩ ?_
 conv=>whnf
 exact ⟨rfl,rfl⟩
 obtain ⟨h,b52d⟩:=cfd b52 h
 conv=>whnf
 obtain ⟨c53,hc53,h⟩:=bind_some h
 refine ⟨_,(zd7 m_ c53 (fun _=>hc53)),?_⟩
 conv=>whnf
 refine Side.mk rfl ?_
 conv=>whnf
 refine Both.mk ?_ ?_<;>intro b54
 obtain ⟨h,b54d⟩:=ctd b54 h
 conv=>whnf
 refine Side.mk rfl ?_
 conv=>whnf
 cases h
 conv=>whnf
 refine Side.mk ⟨rfl,trivial⟩ ?_
 conv=>whnf
 exact ⟨rfl,rfl⟩
 obtain ⟨h,b54d⟩:=cfd b54 h
 conv=>whnf
 refine Side.mk rfl ?_
 conv=>whnf
 refine Side.mk rfl ?_
 conv=>whnf
 cases h
 conv=>whnf
 refine Side.mk ⟨rfl,trivial⟩ ?_
 conv=>whnf
 exact ⟨rfl,rfl⟩
theorem zea (t_:zad) (p1_:List Int) (r:Bool) (h:Ok (.agg (zak t_))→Ok (.ref (cL cI p1_))→zbs t_ p1_=some r):Sp Tryz.prog 44 [.im (.agg (zak t_)),.im (.ref (cL cI p1_))] (.im (nB r)):=by
 refine sp_of rfl [700002] rfl rfl rfl (Nat.le_of_ble_eq_true rfl) rfl fun hk=>?_
 replace h:=h hk.1 hk.2.1
 have z1:lZ t_.In:=ok_len (Ok.agg_at hk.1 0 rfl)
 have z2:lZ t_.Out:=ok_len (Ok.agg_at hk.1 1 rfl)
 have z3:lZ p1_:=ok_len (Ok.ref_at hk.2.1 0 rfl)
 unfold zbs at h
 conv=>whnf
 obtain ⟨c51,hc51,h⟩:=bind_some h
 refine ⟨_,(zes p1_ t_.In c51 (fun _ _=>hc51)),?_⟩
 conv=>whnf
 cases h
 conv=>whnf
 exact ⟨rfl,rfl⟩
theorem zcj (s_:List zad) (f_:zad→Option Bool) (f1_:FuncId) (k1_0:IV) (hk1_0:nz k1_0=k1_0) (hf1:∀ x0 r,f_ x0=some r→Sp Tryz.prog f1_ [.im (.agg (zak x0)),.im k1_0] (.im (nB r))) (r:Int) (h:Ok (nL zak s_)→Ok (.fn f1_ [k1_0])→zag s_ f_=some r):Sp Tryz.prog 74 [.im (nL zak s_),.im (.fn f1_ [k1_0])] (.im (nI r)):=by
 refine sp_of rfl [] rfl rfl rfl (Nat.le_of_ble_eq_true rfl) rfl fun hk=>?_
 replace h:=h hk.1 hk.2.1
 have z1:lZ s_:=ok_len hk.1
 unfold zag at h
 conv=>whnf
 refine Nf.mk (List.length s_) len_map ?_
 conv=>whnf
 obtain ⟨oc,hc,hk51⟩:=bind_some h
 clear h
 have h:=hc
 clear hc
 refine Cut.mkS oc (Y:=Unit) (fun (_:Unit)=>mkSt [] [] []) (fun (_:Unit)=>True) (by rintro ⟨⟩;exact (hT)) ?_ ?_
 conv=>whnf
 refine Loops.iter (fun (s:Nat)=>zag.s2 s_ f_ s) (fun y71=>mkSt [(0,.im (nL zak s_)),(1,.im (.fn f1_ [k1_0])),(7,.im (nI (↑(List.length s_):Int))),(8,.im (nI (↑y71:Int)))] [] []) (fun y71=>lZ s_∧True) h (eA []) (by rintro y71;exact ((Holds.avl 0 rfl).and (hT))) ?_
 clear h
 rintro k y71 o hp h ho76
 replace h:zag.s2 s_ f_ y71=some o:=h
 unfold zag.s2 at h
 obtain ⟨z81,_⟩:=hp
 conv=>whnf
 refine Both.mk ?_ ?_<;>intro b77
 obtain ⟨h,b77d⟩:=ctd b77 h
 conv=>whnf
 obtain ⟨e78,he78,h⟩:=zac h
 refine ⟨_,⟨(by omega),map_at he78,rfl⟩,?_⟩
 conv=>whnf
 obtain ⟨c79,hc79,h⟩:=bind_some h
 refine ⟨_,Sp.args (hf1 e78 c79 hc79) (by rw [hk1_0];try rfl),?_⟩
 conv=>whnf
 refine Both.mk ?_ ?_<;>intro b80
 replace h:=cond_t b80 h
 conv=>whnf
 cases h
 have ho76:_=_:=ho76
 cases ho76
 replace h:some _=some _:=hk51
 cases h
 conv=>whnf
 exact ⟨rfl,rfl⟩
 replace h:=cond_f b80 h
 conv=>whnf
 refine Arith.mk (by show inR _;unfold inR;omega) ?_
 conv=>whnf
 cases h
 exact Nxt.mk _ ho76 (eA [])
 obtain ⟨h,b77d⟩:=cfd b77 h
 conv=>whnf
 cases h
 have ho76:_=_:=ho76
 cases ho76
 exact JoinS.mk' _ rfl (eA [])
 rintro ⟨⟩ rfl hp
 replace h:=sum_inl hk51
 conv=>whnf
 cases h
 conv=>whnf
 exact ⟨rfl,rfl⟩
theorem zcd (s_:List zad) (f_:zad→Option Bool) (f1_:FuncId) (k1_0:IV) (hk1_0:nz k1_0=k1_0) (hf1:∀ x0 r,f_ x0=some r→Sp Tryz.prog f1_ [.im (.agg (zak x0)),.im k1_0] (.im (nB r))) (r:Bool) (h:Ok (nL zak s_)→Ok (.fn f1_ [k1_0])→zaw s_ f_=some r):Sp Tryz.prog 43 [.im (nL zak s_),.im (.fn f1_ [k1_0])] (.im (nB r)):=by
 refine sp_of rfl [] rfl rfl rfl (Nat.le_of_ble_eq_true rfl) rfl fun hk=>?_
 replace h:=h hk.1 hk.2.1
 have z1:lZ s_:=ok_len hk.1
 unfold zaw at h
 conv=>whnf
 obtain ⟨c51,hc51,h⟩:=bind_some h
 refine ⟨_,(zcj s_ f_ f1_ k1_0 hk1_0 hf1 c51 (fun _ _=>hc51)),?_⟩
 conv=>whnf
 cases h
 conv=>whnf
 exact ⟨rfl,rfl⟩
theorem zeu (r_:zay) (w_:List Int) (v0_0:Value) (v0_1:Value) (v0_2:Value) (v0_3:Value) (v0_4:Value) (r:Bool×zay) (h:OkOcs [.im (.ex v0_0),.im (.ex v0_1),.im (.ex v0_2),.im (.ex v0_3),.im (.ex v0_4),.ow (.row 50 2 (List.map zak r_.report.Changes))]→Ok (nL cI w_)→zbx r_ w_=some r):Sp Tryz.prog 21 [.box 62 [.im (.ex v0_0),.im (.ex v0_1),.im (.ex v0_2),.im (.ex v0_3),.im (.ex v0_4),.ow (.row 50 2 (List.map zak r_.report.Changes))],.im (nL cI w_)] (.mk false [.im (nB r.1)] [.box 62 [.im (.ex v0_0),.im (.ex v0_1),.im (.ex v0_2),.im (.ex v0_3),.im (.ex v0_4),.ow (.row 50 2 (List.map zak r.2.report.Changes))]]):=by
 refine sp_of rfl [500011,700003] rfl rfl rfl (Nat.le_of_ble_eq_true rfl) rfl fun hk=>?_
 replace h:=h hk.1 hk.2.1
 have z1:lZ r_.report.Changes:=okl_len hk.1.2.2.2.2.2.1
 have z2:lZ w_:=ok_len hk.2.1
 unfold zbx at h
 conv=>whnf
 refine Side.mk rfl ?_
 conv=>whnf
 refine Side.mk rfl ?_
 conv=>whnf
 refine Side.mk rfl ?_
 conv=>whnf
 refine Side.mk rfl ?_
 conv=>whnf
 refine Side.mk ⟨rfl,trivial⟩ ?_
 conv=>whnf
 obtain ⟨c51,hc51,h⟩:=bind_some h
 refine ⟨_,(zcd r_.report.Changes (fun u0=>zbs u0 w_) 44 (.ref (cL cI w_)) rfl (fun u0 r h=>(zea u0 w_ r (fun _ _=>h))) c51 (fun _ _=>hc51)),?_⟩
 conv=>whnf
 refine Side.mk flat_one ?_
 conv=>whnf
 cases h
 conv=>whnf
 exact Side.mk ⟨rfl,rfl,trivial⟩ ⟨rfl,rfl⟩
theorem zi0 (m_:zaa) (w_:List Int) (r:List Int×Int) (h:Ok (.agg (zab m_))→Ok (nL cI w_)→ze1 m_ w_=some r):Sp Tryz.prog 22 [.im (.agg (zab m_)),.im (nL cI w_)] (.tup [nL cI r.1,nI r.2]):=by
 refine sp_of rfl [700002] rfl rfl rfl (Nat.le_of_ble_eq_true rfl) rfl fun hk=>?_
 replace h:=h hk.1 hk.2.1
 have z1:lZ m_.Next:=ok_len (Ok.agg_at hk.1 2 rfl)
 have z2:lZ m_.Out:=ok_len (Ok.agg_at hk.1 3 rfl)
 have z3:lZ w_:=ok_len hk.2.1
 unfold ze1 at h
 conv=>whnf
 obtain ⟨c51,hc51,h⟩:=bind_some h
 refine ⟨_,(zhn m_ m_.Start w_ c51 (fun _ _ _=>hc51)),?_⟩
 conv=>whnf
 cases h
 conv=>whnf
 exact ⟨rfl,rfl⟩
theorem zgn (l_:List Int) (n_:Int) (r:List Int) (h:Ok (nL cI l_)→Ok (nI n_)→zdi l_ n_=some r):Sp Tryz.prog 48 [.im (nL cI l_),.im (nI n_)] (.row 3 1 (List.map cI r)):=by
 refine sp_of rfl [] rfl rfl rfl (Nat.le_of_ble_eq_true rfl) rfl fun hk=>?_
 replace h:=h hk.1 hk.2.1
 have z1:lZ l_:=ok_len hk.1
 unfold zdi at h
 conv=>whnf
 obtain ⟨c51,h⟩:=chk_some h
 refine Side.mk c51 ?_
 conv=>whnf
 refine Nf.mk (List.map cI (List.replicate (Int.toNat n_) 0)) (rep_map (c:=cI) (z:=0) (n:=(Int.toNat n_)) rfl rfl) ?_
 conv=>whnf
 obtain ⟨c52,h⟩:=chk_some h
 refine Side.mk ⟨rfl,by have hh_:=c52;simp only [List.length_map];omega,by have hh_:=c52;simp only [List.length_map];omega,fun e he=>by obtain ⟨x_,_,rfl⟩:=List.mem_map.1 he;rfl⟩ ?_
 conv=>whnf
 refine Nf.mk (List.map cI (List.take (List.length ((List.replicate (Int.toNat n_) 0):List Int)) l_++List.drop (List.length l_) ((List.replicate (Int.toNat n_) 0):List Int))) cpy_map ?_
 conv=>whnf
 cases h
 conv=>whnf
 exact Side.mk ⟨rfl,trivial⟩ ⟨rfl,rfl⟩
theorem zfk (r_:zay) (w_:List Int) (answer_:List Int) (r:Int×zay) (h:OkOcs [.im (nI r_.m.Inputs),.im (nI r_.m.Start),.im (nL (cL cI) r_.m.Next),.im (nL (cL cI) r_.m.Out),.im (nI r_.report.Run),.ow (.row 50 2 (List.map zak r_.report.Changes))]→Ok (nL cI w_)→Ok (nL cI answer_)→zb8 r_ w_ answer_=some r):Sp Tryz.prog 23 [.box 62 [.im (nI r_.m.Inputs),.im (nI r_.m.Start),.im (nL (cL cI) r_.m.Next),.im (nL (cL cI) r_.m.Out),.im (nI r_.report.Run),.ow (.row 50 2 (List.map zak r_.report.Changes))],.im (nL cI w_),.im (nL cI answer_)] (.mk false [.im (nI r.1)] [.box 62 [.im (nI r.2.m.Inputs),.im (nI r.2.m.Start),.im (nL (cL cI) r.2.m.Next),.im (nL (cL cI) r.2.m.Out),.im (nI r.2.report.Run),.ow (.row 50 2 (List.map zak r.2.report.Changes))]]):=by
 refine sp_of rfl [] rfl rfl rfl (Nat.le_of_ble_eq_true rfl) rfl fun hk=>?_
 replace h:=h hk.1 hk.2.1 hk.2.2.1
 have z1:lZ r_.m.Next:=ok_len hk.1.2.2.1
 have z2:lZ r_.m.Out:=ok_len hk.1.2.2.2.1
 have z3:lZ r_.report.Changes:=okl_len hk.1.2.2.2.2.2.1
 have z4:lZ w_:=ok_len hk.2.1
 have z5:lZ answer_:=ok_len hk.2.2.1
 unfold zb8 at h
 conv=>whnf
 refine Side.mk rfl ?_
 conv=>whnf
 refine Side.mk rfl ?_
 conv=>whnf
 refine Side.mk rfl ?_
 conv=>whnf
 obtain ⟨c51,hc51,h⟩:=bind_some h
 refine ⟨_,(zi0 r_.m w_ c51 (fun _ _=>hc51)),?_⟩
 conv=>whnf
 refine Both.mk ?_ ?_<;>intro b52
 obtain ⟨h,b52d⟩:=ctd b52 h
 conv=>whnf
 cases h
 conv=>whnf
 exact Side.mk ⟨rfl,rfl,trivial⟩ ⟨rfl,rfl⟩
 obtain ⟨h,b52d⟩:=cfd b52 h
 conv=>whnf
 refine Side.mk rfl ?_
 conv=>whnf
 refine Side.mk rfl ?_
 conv=>whnf
 refine Side.mk rfl ?_
 conv=>whnf
 refine Side.mk rfl ?_
 conv=>whnf
 obtain ⟨c53,h⟩:=chk_some h
 refine Arith.mk c53 ?_
 conv=>whnf
 refine Side.mk rfl ?_
 conv=>whnf
 refine Side.mk rfl ?_
 conv=>whnf
 refine Side.mk rfl ?_
 conv=>whnf
 refine Side.mk rfl ?_
 conv=>whnf
 obtain ⟨y63,hc,hk55⟩:=bind_some h
 clear h
 have h:=hc
 clear hc
 refine Cut.mk (mkSt [(0,.own 0 0 0)] [(0,.box 62 6),(65,.row 50 2 (List.map zak y63))] [(0,0,.im (nI r_.m.Inputs)),(0,1,.im (nI r_.m.Start)),(0,2,.im (nL (cL cI) r_.m.Next)),(0,3,.im (nL (cL cI) r_.m.Out)),(0,4,.im (nI (r_.report.Run+1))),(0,5,.osl 65 1)]) (lZ r_.m.Next∧lZ r_.m.Out∧lZ y63∧True) ((Holds.cel 0 2 rfl (by decide) rfl).and ((Holds.cel 0 3 rfl (by decide) rfl).and ((Holds.kdl 65 rfl).and (hT)))) ?_ (fun hp=>?_)
 conv=>whnf
 obtain ⟨c64,hc64,h⟩:=bind_some h
 refine ⟨_,(zgo c51.1 answer_ c64 (fun _ _=>hc64)),?_⟩
 conv=>whnf
 refine Nf.mk (List.length w_) len_map ?_
 conv=>whnf
 refine Both.mk ?_ ?_<;>intro b65
 obtain ⟨h,b65d⟩:=ctd b65 h
 conv=>whnf
 refine Side.mk rfl ?_
 conv=>whnf
 refine Side.mk rfl ?_
 conv=>whnf
 refine Side.mk rfl ?_
 conv=>whnf
 refine Side.mk rfl ?_
 conv=>whnf
 obtain ⟨c66,h⟩:=chk_some h
 refine Arith.mk c66 ?_
 conv=>whnf
 obtain ⟨c67,hc67,h⟩:=bind_some h
 refine ⟨_,(zgn w_ (c64+1) c67 (fun _ _=>hc67)).im,?_⟩
 conv=>whnf
 obtain ⟨c68,h⟩:=chk_some h
 refine Arith.mk c68 ?_
 conv=>whnf
 obtain ⟨c69,hc69,h⟩:=bind_some h
 refine ⟨_,(zgn answer_ (c64+1) c69 (fun _ _=>hc69)).im,?_⟩
 conv=>whnf
 obtain ⟨c70,h⟩:=chk_some h
 refine Side.mk ⟨rfl,map_len (l:=[(⟨c67,c69⟩:zad)]) (c:=zak) fun _=>rfl,show capOk _ 48 by simpa only [List.length_map,List.length_cons,List.length_nil,Nat.zero_add] using c70⟩ ?_
 conv=>whnf
 refine Nf.mk (List.map zak (r_.report.Changes++[(⟨c67,c69⟩:zad)])) (app_map (l:=r_.report.Changes) (m:=[(⟨c67,c69⟩:zad)]) (c:=zak)) ?_
 conv=>whnf
 refine Side.mk rfl ?_
 conv=>whnf
 refine Side.mk rfl ?_
 conv=>whnf
 refine Side.mk rfl ?_
 conv=>whnf
 refine Side.mk rfl ?_
 conv=>whnf
 cases h
 exact Join.mk (eA [(0,some 0),(65,some 2005)])
 obtain ⟨h,b65d⟩:=cfd b65 h
 conv=>whnf
 cases h
 exact Join.mk (eA [(0,some 0),(65,some 2005)])
 replace h:=hk55
 obtain ⟨z71,z72,z73,_⟩:=hp
 conv=>whnf
 cases h
 conv=>whnf
 exact Side.mk ⟨rfl,rfl,trivial⟩ ⟨rfl,rfl⟩
theorem zdg (a_:zaa) (b_:zaa) (extra_:Int) (r:zaf×Int) (h:Ok (.agg (zab a_))→Ok (.agg (zab b_))→Ok (nI extra_)→zaj a_ b_ extra_=some r):Sp Tryz.prog 9 [.im (.agg (zab a_)),.im (.agg (zab b_)),.im (nI extra_)] (.tup [.agg (zca r.1),nI r.2]):=by
 refine sp_of rfl [52000,65000,700003,700004,900051,1000000000000052224,1000000000000052225,1000000000000052226,1000000000000052227,1000000000000052228,52230*1000000000+50*100+2] rfl rfl rfl (Nat.le_of_ble_eq_true rfl) rfl fun hk=>?_
 replace h:=h hk.1 hk.2.1 hk.2.2.1
 have z1:lZ a_.Next:=ok_len (Ok.agg_at hk.1 2 rfl)
 have z2:lZ a_.Out:=ok_len (Ok.agg_at hk.1 3 rfl)
 have z3:lZ b_.Next:=ok_len (Ok.agg_at hk.2.1 2 rfl)
 have z4:lZ b_.Out:=ok_len (Ok.agg_at hk.2.1 3 rfl)
 unfold zaj at h
 conv=>whnf
 obtain ⟨c51,hc51,h⟩:=bind_some h
 refine ⟨_,(zen a_ extra_ c51 (fun _ _=>hc51)),?_⟩
 conv=>whnf
 refine Side.mk rfl ?_
 conv=>whnf
 refine Both.mk ?_ ?_<;>intro b52
 obtain ⟨h,b52d⟩:=ctd b52 h
 conv=>whnf
 refine Side.mk rfl ?_
 conv=>whnf
 cases h
 conv=>whnf
 refine Side.mk ⟨rfl,trivial⟩ ?_
 conv=>whnf
 exact ⟨rfl,rfl⟩
 obtain ⟨h,b52d⟩:=cfd b52 h
 conv=>whnf
 obtain ⟨c53,hc53,h⟩:=bind_some h
 refine ⟨_,(zbr b_ c53 (fun _=>hc53)),?_⟩
 conv=>whnf
 refine Both.mk ?_ ?_<;>intro b54
 obtain ⟨h,b54d⟩:=ctd b54 h
 conv=>whnf
 refine Side.mk rfl ?_
 conv=>whnf
 cases h
 conv=>whnf
 refine Side.mk ⟨rfl,trivial⟩ ?_
 conv=>whnf
 exact ⟨rfl,rfl⟩
 obtain ⟨h,b54d⟩:=cfd b54 h
 conv=>whnf
 refine Both.mk ?_ ?_<;>intro b55
 obtain ⟨h,b55d⟩:=ctd b55 h
 conv=>whnf
 refine Side.mk rfl ?_
 conv=>whnf
 cases h
 conv=>whnf
 refine Side.mk ⟨rfl,trivial⟩ ?_
 conv=>whnf
 exact ⟨rfl,rfl⟩
 obtain ⟨h,b55d⟩:=cfd b55 h
 conv=>whnf
 refine Side.mk rfl ?_
 conv=>whnf
 refine Side.mk rfl ?_
 conv=>whnf
 refine Side.mk rfl ?_
 conv=>whnf
 refine Side.mk rfl ?_
 conv=>whnf
 refine Nf.mk (List.length c51.1.Words) len_map ?_
 conv=>whnf
 obtain ⟨oc,hc,hk56⟩:=bind_some h
 clear h
 have h:=hc
 clear hc
 refine Cut.mkS oc (Y:=Int×Int×List (List Int)×List (List Int)×Int×List zad) (fun (y237,y238,y239,y240,y241,y242)=>mkSt [(6,.own 74 1 0),(11,.own 75 1 0)] [(74,.box 37 2),(75,.box 62 6),(76,.row 50 2 (List.map zak y242))] [(74,0,.im (nI 0)),(74,1,.im (.val (.slice none 0 0))),(75,0,.im (nI y237)),(75,1,.im (nI y238)),(75,2,.im (nL (cL cI) y239)),(75,3,.im (nL (cL cI) y240)),(75,4,.im (nI y241)),(75,5,.osl 76 1)]) (fun (y237,y238,y239,y240,y241,y242)=>lZ y239∧lZ y240∧lZ y242∧True) (by rintro ⟨y237,y238,y239,y240,y241,y242⟩;exact ((Holds.cel 75 2 rfl (by decide) rfl).and ((Holds.cel 75 3 rfl (by decide) rfl).and ((Holds.kdl 76 rfl).and (hT))))) ?_ ?_
 conv=>whnf
 refine Loops.iter (fun (s:Int×Int×List (List Int)×List (List Int)×Int×List zad×Nat)=>zaj.s20 b_ c51 s.1 s.2.1 s.2.2.1 s.2.2.2.1 s.2.2.2.2.1 s.2.2.2.2.2.1 s.2.2.2.2.2.2) (fun (y299,y300,y301,y302,y303,y304,y305)=>mkSt [(4,.im (.ref (zab b_))),(6,.own 74 1 0),(11,.own 75 1 0),(43,.im (nL (cL cI) c51.1.Words)),(44,.im (nI (↑(List.length c51.1.Words):Int))),(45,.im (nI (↑y305:Int)))] [(74,.box 37 2),(75,.box 62 6),(76,.row 50 2 (List.map zak y304))] [(74,0,.im (nI 0)),(74,1,.im (.val (.slice none 0 0))),(75,0,.im (nI y299)),(75,1,.im (nI y300)),(75,2,.im (nL (cL cI) y301)),(75,3,.im (nL (cL cI) y302)),(75,4,.im (nI y303)),(75,5,.osl 76 1)]) (fun (y299,y300,y301,y302,y303,y304,y305)=>lZ c51.1.Words∧lZ y301∧lZ y302∧lZ y304∧True) h (Ent.mk [(74,some 6),(75,some 41),(76,none)] rfl ⟨eI rfl rfl,⟨.own 6 _ 0,rfl,.own rfl rfl rfl⟩,⟨.own 41 _ 0,rfl,.own rfl rfl rfl⟩,eI rfl rfl,eI rfl rfl,eI rfl rfl,trivial⟩ ⟨.inl ⟨6,rfl,rfl,trivial⟩,.inl ⟨41,rfl,rfl,trivial⟩,.inr ⟨rfl,rfl,.inl ⟨_,_,rfl,by decide⟩⟩,trivial⟩ ⟨⟨6,.im _,rfl,rfl,.im (Sub.rfl' rfl)⟩,⟨6,.im (.val (.slice none 0 0)),rfl,rfl,.im (Sub.rfl' rfl)⟩,⟨41,.im _,rfl,rfl,.im (Sub.rfl' rfl)⟩,⟨41,.im _,rfl,rfl,.im (Sub.rfl' rfl)⟩,⟨41,.im _,rfl,rfl,.im (Sub.rfl' rfl)⟩,⟨41,.im _,rfl,rfl,.im (Sub.rfl' rfl)⟩,⟨41,.im _,rfl,rfl,.im (Sub.rfl' rfl)⟩,⟨41,.im (.val (.slice none 0 0)),rfl,rfl,.made rfl rfl⟩,trivial⟩) (by rintro ⟨y299,y300,y301,y302,y303,y304,y305⟩;exact ((Holds.avl 43 rfl).and ((Holds.cel 75 2 rfl (by decide) rfl).and ((Holds.cel 75 3 rfl (by decide) rfl).and ((Holds.kdl 76 rfl).and (hT)))))) ?_
 clear h
 rintro k ⟨y299,y300,y301,y302,y303,y304,y305⟩ o hp h ho362
 replace h:zaj.s20 b_ c51 y299 y300 y301 y302 y303 y304 y305=some o:=h
 unfold zaj.s20 at h
 obtain ⟨z419,z420,z421,z422,_⟩:=hp
 conv=>whnf
 refine Both.mk ?_ ?_<;>intro b363
 obtain ⟨h,b363d⟩:=ctd b363 h
 conv=>whnf
 obtain ⟨oc,hc,hk364⟩:=bind_some h
 clear h
 have h:=hc
 clear hc
 refine Cut.mkS oc (Y:=Int×Int×List (List Int)×List (List Int)×Int×List zad) (fun (y387,y388,y389,y390,y391,y392)=>mkSt [(4,.im (.ref (zab b_))),(6,.own 74 1 0),(11,.own 75 1 0),(43,.im (nL (cL cI) c51.1.Words)),(44,.im (nI (↑(List.length c51.1.Words):Int))),(45,.im (nI (↑y305:Int)))] [(74,.box 37 2),(75,.box 62 6),(76,.row 50 2 (List.map zak y392))] [(74,0,.im (nI 0)),(74,1,.im (.val (.slice none 0 0))),(75,0,.im (nI y387)),(75,1,.im (nI y388)),(75,2,.im (nL (cL cI) y389)),(75,3,.im (nL (cL cI) y390)),(75,4,.im (nI y391)),(75,5,.osl 76 1)]) (fun (y387,y388,y389,y390,y391,y392)=>lZ c51.1.Words∧lZ y389∧lZ y390∧lZ y392∧True) (by rintro ⟨y387,y388,y389,y390,y391,y392⟩;exact ((Holds.avl 43 rfl).and ((Holds.cel 75 2 rfl (by decide) rfl).and ((Holds.cel 75 3 rfl (by decide) rfl).and ((Holds.kdl 76 rfl).and (hT)))))) ?_ ?_
 conv=>whnf
 obtain ⟨e393,he393,h⟩:=zac h
 refine ⟨_,⟨(by omega),map_at he393,rfl⟩,?_⟩
 conv=>whnf
 refine Side.mk ⟨rfl,rfl,trivial⟩ ?_
 conv=>whnf
 obtain ⟨c394,hc394,h⟩:=bind_some h
 refine ⟨false,[.im (nB c394.1)],[.box 62 [.im .any,.im .any,.im .any,.im .any,.im .any,.ow (.row 50 2 (List.map zak c394.2.report.Changes))]],fun V=>(zeu (⟨(⟨y299,y300,y301,y302⟩:zaa),(⟨y303,y304⟩:zaf)⟩:zay) e393 (V 0 0) (V 0 1) (V 0 2) (V 0 3) (V 0 4) c394 (fun _ _=>hc394)),?_⟩
 conv=>whnf
 refine Both.mk ?_ ?_<;>intro b395
 replace h:=cond_t b395 h
 conv=>whnf
 cases h
 exact JoinS.mk' _ rfl (eA [(74,some 74),(75,some 75),(76,some 76)])
 replace h:=cond_f b395 h
 conv=>whnf
 obtain ⟨c396,hc396,h⟩:=bind_some h
 refine ⟨_,(zi0 b_ e393 c396 (fun _ _=>hc396)),?_⟩
 conv=>whnf
 obtain ⟨⟨y401,y402,y403,y404,y405,y406,e407⟩,hc,hk398⟩:=bind_some h
 clear h
 have h:=hc
 clear hc
 refine Cut.mk (mkSt [(4,.im (.ref (zab b_))),(6,.own 74 1 0),(11,.own 75 1 0),(15,.im (nI e407)),(43,.im (nL (cL cI) c51.1.Words)),(44,.im (nI (↑(List.length c51.1.Words):Int))),(45,.im (nI (↑y305:Int)))] [(74,.box 37 2),(75,.box 62 6),(76,.row 50 2 (List.map zak y406))] [(74,0,.im (nI 0)),(74,1,.im (.val (.slice none 0 0))),(75,0,.im (nI y401)),(75,1,.im (nI y402)),(75,2,.im (nL (cL cI) y403)),(75,3,.im (nL (cL cI) y404)),(75,4,.im (nI y405)),(75,5,.osl 76 1)]) (lZ c51.1.Words∧lZ y403∧lZ y404∧lZ y406∧True) ((Holds.avl 43 rfl).and ((Holds.cel 75 2 rfl (by decide) rfl).and ((Holds.cel 75 3 rfl (by decide) rfl).and ((Holds.kdl 76 rfl).and (hT))))) ?_ (fun hp=>?_)
 conv=>whnf
 refine Both.mk ?_ ?_<;>intro b408
 obtain ⟨h,b408d⟩:=ctd b408 h
 conv=>whnf
 refine Side.mk ⟨rfl,rfl,trivial⟩ ?_
 conv=>whnf
 obtain ⟨c409,hc409,h⟩:=bind_some h
 refine ⟨_,(zfk (⟨(⟨y299,y300,y301,y302⟩:zaa),(⟨y303,c394.2.report.Changes⟩:zaf)⟩:zay) e393 c396.1 c409 (fun _ _ _=>hc409)),?_⟩
 conv=>whnf
 cases h
 exact Join.mk (eA [(74,some 74),(75,some 75),(76,some 76)])
 obtain ⟨h,b408d⟩:=cfd b408 h
 conv=>whnf
 cases h
 exact Join.mk (eA [(74,some 74),(75,some 75),(76,some 76)])
 replace h:zaj.k18 y401 y402 y403 y404 y405 y406 e407=some _:=hk398
 unfold zaj.k18 at h
 obtain ⟨z410,z411,z412,z413,_⟩:=hp
 conv=>whnf
 refine Both.mk ?_ ?_<;>intro b414
 obtain ⟨h,b414d⟩:=ctd b414 h
 conv=>whnf
 refine Side.mk rfl ?_
 conv=>whnf
 cases h
 replace h:some _=some _:=hk364
 cases h
 have ho362:_=_:=ho362
 cases ho362
 replace h:some _=some _:=hk56
 cases h
 conv=>whnf
 refine Side.mk ⟨rfl,trivial⟩ ?_
 conv=>whnf
 exact ⟨rfl,rfl⟩
 obtain ⟨h,b414d⟩:=cfd b414 h
 conv=>whnf
 cases h
 exact JoinS.mk' _ rfl (eA [(74,some 74),(75,some 75),(76,some 76)])
 rintro ⟨y387,y388,y389,y390,y391,y392⟩ rfl hp
 have hx_:=sum_inl hk364
 replace h:zaj.k19 y305 y387 y388 y389 y390 y391 y392=some _:=hx_
 clear hx_
 unfold zaj.k19 at h
 obtain ⟨z415,z416,z417,z418,_⟩:=hp
 conv=>whnf
 refine Arith.mk (by show inR _;unfold inR;omega) ?_
 conv=>whnf
 cases h
 exact Nxt.mk _ ho362 (eA [(74,some 74),(75,some 75),(76,some 76)])
 obtain ⟨h,b363d⟩:=cfd b363 h
 conv=>whnf
 cases h
 have ho362:_=_:=ho362
 cases ho362
 exact JoinS.mk' _ rfl (eA [(74,some 74),(75,some 75),(76,some 76)])
 rintro ⟨y237,y238,y239,y240,y241,y242⟩ rfl hp
 have hx_:=sum_inl hk56
 replace h:zaj.k21 y237 y238 y239 y240 y241 y242=some _:=hx_
 clear hx_
 unfold zaj.k21 at h
 obtain ⟨z423,z424,z425,_⟩:=hp
 conv=>whnf
 refine Side.mk rfl ?_
 conv=>whnf
 refine Side.mk rfl ?_
 conv=>whnf
 refine Side.mk rfl ?_
 conv=>whnf
 refine Side.mk rfl ?_
 conv=>whnf
 cases h
 conv=>whnf
 refine Side.mk ⟨rfl,trivial⟩ ?_
 conv=>whnf
 exact Side.mk ⟨rfl,trivial⟩ ⟨rfl,rfl⟩
theorem zis (r:Bool) (h:zf2=some r):Sp Tryz.prog 6 [] (.im (nB r)):=by
 refine sp_of rfl [] rfl rfl rfl (Nat.le_of_ble_eq_true rfl) rfl fun hk=>?_
 unfold zf2 at h
 conv=>whnf
 obtain ⟨c51,hc51,h⟩:=bind_some h
 refine ⟨_,(zg3  c51 (hc51)),?_⟩
 conv=>whnf
 obtain ⟨c52,hc52,h⟩:=bind_some h
 refine ⟨_,(zen c51 0 c52 (fun _ _=>hc52)),?_⟩
 conv=>whnf
 refine Side.mk rfl ?_
 conv=>whnf
 refine Side.mk rfl ?_
 conv=>whnf
 obtain ⟨c53,hc53,h⟩:=bind_some h
 refine ⟨_,(zg3  c53 (hc53)),?_⟩
 conv=>whnf
 refine Side.mk rfl ?_
 conv=>whnf
 obtain ⟨c54,hc54,h⟩:=bind_some h
 refine ⟨_,(zdg c53 (⟨2,0,[[1,0],[1,1]],[[1,0],[1,2]]⟩:zaa) 0 c54 (fun _ _ _=>hc54)),?_⟩
 conv=>whnf
 refine Side.mk rfl ?_
 conv=>whnf
 refine Side.mk rfl ?_
 conv=>whnf
 obtain ⟨c55,hc55,h⟩:=bind_some h
 refine ⟨_,(zg3  c55 (hc55)),?_⟩
 conv=>whnf
 refine Side.mk rfl ?_
 conv=>whnf
 obtain ⟨c56,hc56,h⟩:=bind_some h
 refine ⟨_,(zdg c55 (⟨2,0,[[1,0],[1,0]],[[0,0],[1,2]]⟩:zaa) 0 c56 (fun _ _ _=>hc56)),?_⟩
 conv=>whnf
 refine Side.mk rfl ?_
 conv=>whnf
 obtain ⟨y67,hc,hk58⟩:=bind_some h
 clear h
 have h:=hc
 clear hc
 refine Cut.mk (mkSt [(4,.own 116 1 0),(7,.own 117 1 0),(81,.im (nB y67))] [(116,.box 37 2),(117,.box 37 2)] [(116,0,.im (nI c54.1.Run)),(116,1,.im (nL zak c54.1.Changes)),(117,0,.im (nI c56.1.Run)),(117,1,.im (nL zak c56.1.Changes))]) (lZ c54.1.Changes∧lZ c56.1.Changes∧True) ((Holds.cel 116 1 rfl (by decide) rfl).and ((Holds.cel 117 1 rfl (by decide) rfl).and (hT))) ?_ (fun hp=>?_)
 conv=>whnf
 refine Both.mk ?_ ?_<;>intro b68
 replace b68:=beq_ff b68
 obtain ⟨h,b68d⟩:=cfd b68 h
 conv=>whnf
 refine Both.yes (ff_beq b68) ?_
 conv=>whnf
 refine Both.no b68 ?_
 conv=>whnf
 refine Both.mk ?_ ?_<;>intro b69
 replace b69:=beq_ff b69
 obtain ⟨h,b69d⟩:=cfd b69 h
 conv=>whnf
 refine Both.yes (ff_beq b69) ?_
 conv=>whnf
 refine Both.no b69 ?_
 conv=>whnf
 refine Both.mk ?_ ?_<;>intro b70
 replace b70:=beq_ff b70
 obtain ⟨h,b70d⟩:=cfd b70 h
 conv=>whnf
 refine Side.mk rfl ?_
 conv=>whnf
 refine Both.yes (ff_beq b70) ?_
 conv=>whnf
 refine Side.mk rfl ?_
 conv=>whnf
 iterate 5 (refine Both.yes (ff_beq b70) ?_;(conv=>whnf))
 obtain ⟨c71,hc71,h⟩:=bind_some h
 refine ⟨_,(zeh c52.1.Words [[1,1],[0,0,1],[0,1,1]] c71 (fun _ _=>hc71)),?_⟩
 conv=>whnf
 refine Both.yes (ff_beq b70) ?_
 conv=>whnf
 refine Both.no b70 ?_
 conv=>whnf
 refine Both.mk ?_ ?_<;>intro b72
 replace b72:=beq_ff b72
 replace h:=cond_f b72 h
 conv=>whnf
 refine Side.mk rfl ?_
 conv=>whnf
 refine Both.yes (ff_beq b72) ?_
 conv=>whnf
 refine Side.mk rfl ?_
 conv=>whnf
 refine Both.yes (ff_beq b72) ?_
 conv=>whnf
 refine Both.no b72 ?_
 conv=>whnf
 refine Both.mk ?_ ?_<;>intro b73
 replace b73:=beq_ff b73
 obtain ⟨h,b73d⟩:=cfd b73 h
 conv=>whnf
 refine Side.mk rfl ?_
 conv=>whnf
 refine Both.yes (ff_beq b73) ?_
 conv=>whnf
 refine Side.mk rfl ?_
 conv=>whnf
 refine Both.yes (ff_beq b73) ?_
 conv=>whnf
 refine Nf.mk (List.length c54.1.Changes) len_map ?_
 conv=>whnf
 refine Both.yes (ff_beq b73) ?_
 conv=>whnf
 refine Both.no b73 ?_
 conv=>whnf
 refine Both.mk ?_ ?_<;>intro b74
 replace b74:=beq_ff b74
 obtain ⟨h,b74d⟩:=cfd b74 h
 conv=>whnf
 refine Side.mk rfl ?_
 conv=>whnf
 refine Both.yes (ff_beq b74) ?_
 conv=>whnf
 refine Side.mk rfl ?_
 conv=>whnf
 refine Both.yes (ff_beq b74) ?_
 conv=>whnf
 refine Both.no b74 ?_
 conv=>whnf
 refine Both.mk ?_ ?_<;>intro b75
 replace b75:=beq_ff b75
 obtain ⟨h,b75d⟩:=cfd b75 h
 conv=>whnf
 refine Side.mk rfl ?_
 conv=>whnf
 refine Both.yes (ff_beq b75) ?_
 conv=>whnf
 refine Side.mk rfl ?_
 conv=>whnf
 refine Both.yes (ff_beq b75) ?_
 conv=>whnf
 refine Nf.mk (List.length c56.1.Changes) len_map ?_
 conv=>whnf
 refine Both.yes (ff_beq b75) ?_
 conv=>whnf
 refine Both.no b75 ?_
 conv=>whnf
 cases h
 exact Join.mk (eA [(116,some 4),(117,some 7)])
 replace b75:=beq_ft b75
 obtain ⟨h,b75d⟩:=ctd b75 h
 conv=>whnf
 iterate 3 (refine Both.no (tf_beq b75) ?_;(conv=>whnf))
 refine Both.yes b75 ?_
 conv=>whnf
 cases h
 exact Join.mk (eA [(116,some 4),(117,some 7)])
 replace b74:=beq_ft b74
 obtain ⟨h,b74d⟩:=ctd b74 h
 conv=>whnf
 iterate 2 (refine Both.no (tf_beq b74) ?_;(conv=>whnf))
 refine Both.yes b74 ?_
 conv=>whnf
 iterate 4 (refine Both.no rfl ?_;(conv=>whnf))
 refine Both.yes rfl ?_
 conv=>whnf
 cases h
 exact Join.mk (eA [(116,some 4),(117,some 7)])
 replace b73:=beq_ft b73
 obtain ⟨h,b73d⟩:=ctd b73 h
 conv=>whnf
 iterate 3 (refine Both.no (tf_beq b73) ?_;(conv=>whnf))
 refine Both.yes b73 ?_
 conv=>whnf
 iterate 3 (refine Both.no rfl ?_;(conv=>whnf))
 refine Both.yes rfl ?_
 conv=>whnf
 iterate 4 (refine Both.no rfl ?_;(conv=>whnf))
 refine Both.yes rfl ?_
 conv=>whnf
 cases h
 exact Join.mk (eA [(116,some 4),(117,some 7)])
 replace b72:=beq_ft b72
 replace h:=cond_t b72 h
 conv=>whnf
 iterate 2 (refine Both.no (tf_beq b72) ?_;(conv=>whnf))
 refine Both.yes b72 ?_
 conv=>whnf
 iterate 4 (refine Both.no rfl ?_;(conv=>whnf))
 refine Both.yes rfl ?_
 conv=>whnf
 iterate 3 (refine Both.no rfl ?_;(conv=>whnf))
 refine Both.yes rfl ?_
 conv=>whnf
 iterate 4 (refine Both.no rfl ?_;(conv=>whnf))
 refine Both.yes rfl ?_
 conv=>whnf
 cases h
 exact Join.mk (eA [(116,some 4),(117,some 7)])
 replace b70:=beq_ft b70
 obtain ⟨h,b70d⟩:=ctd b70 h
 conv=>whnf
 iterate 7 (refine Both.no (tf_beq b70) ?_;(conv=>whnf))
 refine Both.yes b70 ?_
 conv=>whnf
 iterate 3 (refine Both.no rfl ?_;(conv=>whnf))
 refine Both.yes rfl ?_
 conv=>whnf
 iterate 4 (refine Both.no rfl ?_;(conv=>whnf))
 refine Both.yes rfl ?_
 conv=>whnf
 iterate 3 (refine Both.no rfl ?_;(conv=>whnf))
 refine Both.yes rfl ?_
 conv=>whnf
 iterate 4 (refine Both.no rfl ?_;(conv=>whnf))
 refine Both.yes rfl ?_
 conv=>whnf
 cases h
 exact Join.mk (eA [(116,some 4),(117,some 7)])
 replace b69:=beq_ft b69
 obtain ⟨h,b69d⟩:=ctd b69 h
 conv=>whnf
 refine Both.no (tf_beq b69) ?_
 conv=>whnf
 refine Both.yes b69 ?_
 conv=>whnf
 iterate 8 (refine Both.no rfl ?_;(conv=>whnf))
 refine Both.yes rfl ?_
 conv=>whnf
 iterate 3 (refine Both.no rfl ?_;(conv=>whnf))
 refine Both.yes rfl ?_
 conv=>whnf
 iterate 4 (refine Both.no rfl ?_;(conv=>whnf))
 refine Both.yes rfl ?_
 conv=>whnf
 iterate 3 (refine Both.no rfl ?_;(conv=>whnf))
 refine Both.yes rfl ?_
 conv=>whnf
 iterate 4 (refine Both.no rfl ?_;(conv=>whnf))
 refine Both.yes rfl ?_
 conv=>whnf
 cases h
 exact Join.mk (eA [(116,some 4),(117,some 7)])
 replace b68:=beq_ft b68
 obtain ⟨h,b68d⟩:=ctd b68 h
 conv=>whnf
 refine Both.no (tf_beq b68) ?_
 conv=>whnf
 refine Both.yes b68 ?_
 conv=>whnf
 iterate 2 (refine Both.no rfl ?_;(conv=>whnf))
 refine Both.yes rfl ?_
 conv=>whnf
 iterate 8 (refine Both.no rfl ?_;(conv=>whnf))
 refine Both.yes rfl ?_
 conv=>whnf
 iterate 3 (refine Both.no rfl ?_;(conv=>whnf))
 refine Both.yes rfl ?_
 conv=>whnf
 iterate 4 (refine Both.no rfl ?_;(conv=>whnf))
 refine Both.yes rfl ?_
 conv=>whnf
 iterate 3 (refine Both.no rfl ?_;(conv=>whnf))
 refine Both.yes rfl ?_
 conv=>whnf
 iterate 4 (refine Both.no rfl ?_;(conv=>whnf))
 refine Both.yes rfl ?_
 conv=>whnf
 cases h
 exact Join.mk (eA [(116,some 4),(117,some 7)])
 replace h:=hk58
 obtain ⟨z76,z77,_⟩:=hp
 conv=>whnf
 refine Both.mk ?_ ?_<;>intro b78
 replace h:=cond_t b78 h
 conv=>whnf
 cases h
 conv=>whnf
 exact ⟨rfl,rfl⟩
 replace h:=cond_f b78 h
 conv=>whnf
 obtain ⟨y92,hc,hk80⟩:=bind_some h
 clear h
 have h:=hc
 clear hc
 refine Cut.mk (mkSt [(0,.im (nB y92))] [] []) (True) (hT) ?_ (fun hp=>?_)
 conv=>whnf
 refine Side.mk rfl ?_
 conv=>whnf
 refine Side.mk rfl ?_
 conv=>whnf
 obtain ⟨e93,he93,h⟩:=zac h
 refine ⟨_,⟨(by omega),map_at he93,rfl⟩,?_⟩
 conv=>whnf
 obtain ⟨c94,hc94,h⟩:=bind_some h
 refine ⟨_,(zc8 e93.In [0,1,1] c94 (fun _ _=>hc94)),?_⟩
 conv=>whnf
 refine Both.mk ?_ ?_<;>intro b95
 replace b95:=beq_tt b95
 replace h:=cond_t b95 h
 conv=>whnf
 refine Side.mk rfl ?_
 conv=>whnf
 refine Both.yes (tt_beq b95) ?_
 conv=>whnf
 refine Side.mk rfl ?_
 conv=>whnf
 refine Both.yes (tt_beq b95) ?_
 conv=>whnf
 obtain ⟨e96,he96,h⟩:=zac h
 refine ⟨_,⟨(by omega),map_at he96,rfl⟩,?_⟩
 conv=>whnf
 iterate 4 (refine Both.yes (tt_beq b95) ?_;(conv=>whnf))
 obtain ⟨c97,hc97,h⟩:=bind_some h
 refine ⟨_,(zc8 e96.Out [1,2,2] c97 (fun _ _=>hc97)),?_⟩
 conv=>whnf
 refine Both.yes b95 ?_
 conv=>whnf
 refine Both.mk ?_ ?_<;>intro b98
 replace b98:=beq_tt b98
 replace h:=cond_t b98 h
 conv=>whnf
 refine Side.mk rfl ?_
 conv=>whnf
 refine Both.yes (tt_beq b98) ?_
 conv=>whnf
 refine Side.mk rfl ?_
 conv=>whnf
 refine Both.yes (tt_beq b98) ?_
 conv=>whnf
 obtain ⟨e99,he99,h⟩:=zac h
 refine ⟨_,⟨(by omega),map_at he99,rfl⟩,?_⟩
 conv=>whnf
 iterate 4 (refine Both.yes (tt_beq b98) ?_;(conv=>whnf))
 obtain ⟨c100,hc100,h⟩:=bind_some h
 refine ⟨_,(zc8 e99.In [0] c100 (fun _ _=>hc100)),?_⟩
 conv=>whnf
 refine Both.yes b98 ?_
 conv=>whnf
 refine Both.mk ?_ ?_<;>intro b101
 replace b101:=beq_tt b101
 replace h:=cond_t b101 h
 conv=>whnf
 refine Side.mk rfl ?_
 conv=>whnf
 refine Both.yes (tt_beq b101) ?_
 conv=>whnf
 refine Side.mk rfl ?_
 conv=>whnf
 refine Both.yes (tt_beq b101) ?_
 conv=>whnf
 obtain ⟨e102,he102,h⟩:=zac h
 refine ⟨_,⟨(by omega),map_at he102,rfl⟩,?_⟩
 conv=>whnf
 iterate 4 (refine Both.yes (tt_beq b101) ?_;(conv=>whnf))
 obtain ⟨c103,hc103,h⟩:=bind_some h
 refine ⟨_,(zc8 e102.Out [0] c103 (fun _ _=>hc103)),?_⟩
 conv=>whnf
 refine Both.yes b101 ?_
 conv=>whnf
 cases h
 exact Join.mk (eA [])
 replace b101:=beq_tf b101
 replace h:=cond_f b101 h
 conv=>whnf
 iterate 6 (refine Both.no (ft_beq b101) ?_;(conv=>whnf))
 refine Both.no b101 ?_
 conv=>whnf
 cases h
 exact Join.mk (eA [])
 replace b98:=beq_tf b98
 replace h:=cond_f b98 h
 conv=>whnf
 iterate 6 (refine Both.no (ft_beq b98) ?_;(conv=>whnf))
 refine Both.no b98 ?_
 conv=>whnf
 iterate 8 (refine Both.no rfl ?_;(conv=>whnf))
 cases h
 exact Join.mk (eA [])
 replace b95:=beq_tf b95
 replace h:=cond_f b95 h
 conv=>whnf
 iterate 6 (refine Both.no (ft_beq b95) ?_;(conv=>whnf))
 refine Both.no b95 ?_
 conv=>whnf
 iterate 16 (refine Both.no rfl ?_;(conv=>whnf))
 cases h
 exact Join.mk (eA [])
 replace h:=hk80
 conv=>whnf
 cases h
 conv=>whnf
 exact ⟨rfl,rfl⟩
theorem zh1 (a_:List Int) (b_:List Int) (c_:List Int) (r:List Int) (h:Ok (nL cI a_)→Ok (nL cI b_)→Ok (nL cI c_)→zd4 a_ b_ c_=some r):Sp Tryz.prog 71 [.im (nL cI a_),.im (nL cI b_),.im (nL cI c_)] (.row 3 1 (List.map cI r)):=by
 refine sp_of rfl [] rfl rfl rfl (Nat.le_of_ble_eq_true rfl) rfl fun hk=>?_
 replace h:=h hk.1 hk.2.1 hk.2.2.1
 have z1:lZ a_:=ok_len hk.1
 have z2:lZ b_:=ok_len hk.2.1
 have z3:lZ c_:=ok_len hk.2.2.1
 unfold zd4 at h
 conv=>whnf
 obtain ⟨c51,h⟩:=chk_some h
 refine Side.mk ⟨map_len (l:=a_) (c:=cI) fun _=>rfl,show capOk _ 8 by simpa only [List.length_map,List.length_cons,List.length_nil,Nat.zero_add] using c51⟩ ?_
 conv=>whnf
 refine Nf.mk (List.map cI a_) rfl ?_
 conv=>whnf
 obtain ⟨c52,h⟩:=chk_some h
 refine Side.mk ⟨rfl,map_len (l:=b_) (c:=cI) fun _=>rfl,show capOk _ 8 by simpa only [List.length_map,List.length_cons,List.length_nil,Nat.zero_add] using c52⟩ ?_
 conv=>whnf
 refine Nf.mk (List.map cI (a_++b_)) (app_map (l:=a_) (m:=b_) (c:=cI)) ?_
 conv=>whnf
 obtain ⟨c53,h⟩:=chk_some h
 refine Side.mk ⟨rfl,map_len (l:=c_) (c:=cI) fun _=>rfl,show capOk _ 8 by simpa only [List.length_map,List.length_cons,List.length_nil,Nat.zero_add] using c53⟩ ?_
 conv=>whnf
 refine Nf.mk (List.map cI ((a_++b_)++c_)) (app_map (l:=(a_++b_)) (m:=c_) (c:=cI)) ?_
 conv=>whnf
 cases h
 conv=>whnf
 exact Side.mk ⟨rfl,trivial⟩ ⟨rfl,rfl⟩
theorem zkl (inputs_:Int) (r:Bool) (h:Ok (nI inputs_)→R01_Size inputs_=some r):Sp Tryz.prog 91 [.im (nI inputs_)] (.im (nB r)):=by
 refine sp_of rfl [] rfl rfl rfl (Nat.le_of_ble_eq_true rfl) rfl fun hk=>?_
 replace h:=h hk.1
 unfold R01_Size at h
 conv=>whnf
 obtain ⟨y54,hc,hk52⟩:=bind_some h
 clear h
 have h:=hc
 clear hc
 refine Cut.mk (mkSt [(2,.im (nB y54))] [] []) (True) (hT) ?_ (fun hp=>?_)
 conv=>whnf
 refine Both.mk ?_ ?_<;>intro b55
 replace b55:=beq_tt b55
 obtain ⟨h,b55d⟩:=ctd b55 h
 conv=>whnf
 refine Both.yes (tt_beq b55) ?_
 conv=>whnf
 refine Both.yes b55 ?_
 conv=>whnf
 cases h
 exact Join.mk (eA [])
 replace b55:=beq_tf b55
 obtain ⟨h,b55d⟩:=cfd b55 h
 conv=>whnf
 refine Both.no (ft_beq b55) ?_
 conv=>whnf
 refine Both.no b55 ?_
 conv=>whnf
 cases h
 exact Join.mk (eA [])
 replace h:=hk52
 conv=>whnf
 cases h
 conv=>whnf
 exact ⟨rfl,rfl⟩
theorem zit (w_:List Int) (inputs_:Int) (r:Int) (h:Ok (nL cI w_)→Ok (nI inputs_)→zcb w_ inputs_=some r):Sp Tryz.prog 106 [.im (nL cI w_),.im (nI inputs_)] (.im (nI r)):=by
 refine sp_of rfl [] rfl rfl rfl (Nat.le_of_ble_eq_true rfl) rfl fun hk=>?_
 replace h:=h hk.1 hk.2.1
 have z1:lZ w_:=ok_len hk.1
 unfold zcb at h
 conv=>whnf
 obtain ⟨c51,hc51,h⟩:=bind_some h
 refine ⟨_,(zkl inputs_ c51 (fun _=>hc51)),?_⟩
 conv=>whnf
 refine Both.mk ?_ ?_<;>intro b52
 replace h:=cond_t b52 h
 conv=>whnf
 cases h
 conv=>whnf
 exact ⟨rfl,rfl⟩
 replace h:=cond_f b52 h
 conv=>whnf
 refine Nf.mk (List.length w_) len_map ?_
 conv=>whnf
 refine Both.mk ?_ ?_<;>intro b53
 obtain ⟨h,b53d⟩:=ctd b53 h
 conv=>whnf
 cases h
 conv=>whnf
 exact ⟨rfl,rfl⟩
 obtain ⟨h,b53d⟩:=cfd b53 h
 conv=>whnf
 obtain ⟨oc,hc,hk54⟩:=bind_some h
 clear h
 have h:=hc
 clear hc
 refine Cut.mkS oc (Y:=Unit) (fun (_:Unit)=>mkSt [] [] []) (fun (_:Unit)=>True) (by rintro ⟨⟩;exact (hT)) ?_ ?_
 conv=>whnf
 refine Loops.iter (fun (s:Nat)=>zcb.s2 w_ inputs_ s) (fun i106=>mkSt [(0,.im (nL cI w_)),(1,.im (nI inputs_)),(5,.im (nI (↑i106:Int)))] [] []) (fun i106=>lZ w_∧True) h (eA []) (by rintro i106;exact ((Holds.avl 0 rfl).and (hT))) ?_
 clear h
 rintro k i106 o hp h ho119
 replace h:zcb.s2 w_ inputs_ i106=some o:=h
 unfold zcb.s2 at h
 obtain ⟨z132,_⟩:=hp
 conv=>whnf
 refine Nf.mk (List.length w_) len_map ?_
 conv=>whnf
 refine Both.mk ?_ ?_<;>intro b120
 obtain ⟨h,b120d⟩:=ctd b120 h
 conv=>whnf
 obtain ⟨y126,hc,hk122⟩:=bind_some h
 clear h
 have h:=hc
 clear hc
 refine Cut.mk (mkSt [(0,.im (nL cI w_)),(1,.im (nI inputs_)),(5,.im (nI (↑i106:Int))),(30,.im (nB y126))] [] []) (lZ w_∧True) ((Holds.avl 0 rfl).and (hT)) ?_ (fun hp=>?_)
 conv=>whnf
 obtain ⟨e127,he127,h⟩:=zac h
 refine ⟨_,⟨(by omega),map_at he127,rfl⟩,?_⟩
 conv=>whnf
 refine Both.mk ?_ ?_<;>intro b128
 replace b128:=beq_ff b128
 obtain ⟨h,b128d⟩:=cfd b128 h
 conv=>whnf
 iterate 2 (refine Both.yes (ff_beq b128) ?_;(conv=>whnf))
 obtain ⟨e129,he129,h⟩:=zac h
 refine ⟨_,⟨(by omega),map_at he129,rfl⟩,?_⟩
 conv=>whnf
 iterate 3 (refine Both.yes (ff_beq b128) ?_;(conv=>whnf))
 refine Both.no b128 ?_
 conv=>whnf
 cases h
 exact Join.mk (eA [])
 replace b128:=beq_ft b128
 obtain ⟨h,b128d⟩:=ctd b128 h
 conv=>whnf
 iterate 5 (refine Both.no (tf_beq b128) ?_;(conv=>whnf))
 refine Both.yes b128 ?_
 conv=>whnf
 cases h
 exact Join.mk (eA [])
 replace h:=hk122
 obtain ⟨z130,_⟩:=hp
 conv=>whnf
 refine Both.mk ?_ ?_<;>intro b131
 replace h:=cond_t b131 h
 conv=>whnf
 cases h
 have ho119:_=_:=ho119
 cases ho119
 replace h:some _=some _:=hk54
 cases h
 conv=>whnf
 exact ⟨rfl,rfl⟩
 replace h:=cond_f b131 h
 conv=>whnf
 refine Arith.mk (by show inR _;unfold inR;omega) ?_
 conv=>whnf
 cases h
 exact Nxt.mk _ ho119 (eA [])
 obtain ⟨h,b120d⟩:=cfd b120 h
 conv=>whnf
 cases h
 have ho119:_=_:=ho119
 cases ho119
 exact JoinS.mk' _ rfl (eA [])
 rintro ⟨⟩ rfl hp
 replace h:=sum_inl hk54
 conv=>whnf
 cases h
 conv=>whnf
 exact ⟨rfl,rfl⟩
theorem zgu (m_:zaa) (s_:Int) (w_:List Int) (r:List Int×Int) (h:Ok (.agg (zab m_))→Ok (nI s_)→Ok (nL cI w_)→R06_Outs m_ s_ w_=some r):Sp Tryz.prog 26 [.im (.agg (zab m_)),.im (nI s_),.im (nL cI w_)] (.tup [nL cI r.1,nI r.2]):=by
 refine sp_of rfl [700003] rfl rfl rfl (Nat.le_of_ble_eq_true rfl) rfl fun hk=>?_
 replace h:=h hk.1 hk.2.1 hk.2.2.1
 have z1:lZ m_.Next:=ok_len (Ok.agg_at hk.1 2 rfl)
 have z2:lZ m_.Out:=ok_len (Ok.agg_at hk.1 3 rfl)
 have z3:lZ w_:=ok_len hk.2.2.1
 unfold R06_Outs at h
 conv=>whnf
 obtain ⟨⟨s81,y82⟩,hc,hk51⟩:=bind_some h
 clear h
 have h:=hc
 clear hc
 refine Cut.mk (mkSt [(1,.im (nI s81)),(8,.osl 64 1)] [(64,.row 3 1 (List.map cI y82))] []) (lZ y82∧True) ((Holds.kdl 64 rfl).and (hT)) ?_ (fun hp=>?_)
 conv=>whnf
 refine Loops.iter (fun (s:Int×List Int×Nat)=>R06_Outs.s2 m_ w_ s.1 s.2.1 s.2.2) (fun (s90,y91,i92)=>mkSt [(1,.im (nI s90)),(2,.im (nL cI w_)),(3,.im (.ref (zab m_))),(8,.osl 64 1),(9,.im (nI (↑i92:Int)))] [(64,.row 3 1 (List.map cI y91))] []) (fun (s90,y91,i92)=>lZ w_∧lZ y91∧True) h (eA [(64,none)]) (by rintro ⟨s90,y91,i92⟩;exact ((Holds.avl 2 rfl).and ((Holds.kdl 64 rfl).and (hT)))) ?_
 clear h
 rintro k ⟨s90,y91,i92⟩ o hp h ho101
 replace h:R06_Outs.s2 m_ w_ s90 y91 i92=some o:=h
 unfold R06_Outs.s2 at h
 obtain ⟨z110,z111,_⟩:=hp
 conv=>whnf
 refine Nf.mk (List.length w_) len_map ?_
 conv=>whnf
 refine Both.mk ?_ ?_<;>intro b102
 obtain ⟨h,b102d⟩:=ctd b102 h
 conv=>whnf
 obtain ⟨e103,he103z,he103,h⟩:=idx_some h
 refine ⟨_,⟨he103z,map_at he103,rfl⟩,?_⟩
 conv=>whnf
 obtain ⟨e104,he104,h⟩:=zac h
 refine ⟨_,⟨(by omega),map_at he104,rfl⟩,?_⟩
 conv=>whnf
 obtain ⟨e105,he105z,he105,h⟩:=idx_some h
 refine ⟨_,⟨he105z,map_at he105,rfl⟩,?_⟩
 conv=>whnf
 obtain ⟨c106,h⟩:=chk_some h
 refine Side.mk ⟨rfl,map_len (l:=[e105]) (c:=cI) fun _=>rfl,show capOk _ 8 by simpa only [List.length_map,List.length_cons,List.length_nil,Nat.zero_add] using c106⟩ ?_
 conv=>whnf
 refine Nf.mk (List.map cI (y91++[e105])) (app_map (l:=y91) (m:=[e105]) (c:=cI)) ?_
 conv=>whnf
 obtain ⟨e107,he107z,he107,h⟩:=idx_some h
 refine ⟨_,⟨he107z,map_at he107,rfl⟩,?_⟩
 conv=>whnf
 obtain ⟨e108,he108,h⟩:=zac h
 refine ⟨_,⟨(by omega),map_at he108,rfl⟩,?_⟩
 conv=>whnf
 obtain ⟨e109,he109z,he109,h⟩:=idx_some h
 refine ⟨_,⟨he109z,map_at he109,rfl⟩,?_⟩
 conv=>whnf
 refine Arith.mk (by show inR _;unfold inR;omega) ?_
 conv=>whnf
 cases h
 exact Nxt.mk _ ho101 (eA [(64,some 64)])
 obtain ⟨h,b102d⟩:=cfd b102 h
 conv=>whnf
 cases h
 have ho101:_=_:=ho101
 cases ho101
 exact Join.mk (eA [(64,some 64)])
 replace h:R06_Outs.k3 s81 y82=some _:=hk51
 unfold R06_Outs.k3 at h
 obtain ⟨z112,_⟩:=hp
 conv=>whnf
 cases h
 conv=>whnf
 exact Side.mk ⟨rfl,trivial⟩ ⟨rfl,rfl⟩
theorem sp_R06_row (m_:zaa) (s_:Int) (r:Int) (h:Ok (.agg (zab m_))→Ok (nI s_)→R06_row m_ s_=some r):Sp Tryz.prog 49 [.im (.agg (zab m_)),.im (nI s_)] (.im (nI r)):=by
 refine sp_of rfl [700002] rfl rfl rfl (Nat.le_of_ble_eq_true rfl) rfl fun hk=>?_
 replace h:=h hk.1 hk.2.1
 have z1:lZ m_.Next:=ok_len (Ok.agg_at hk.1 2 rfl)
 have z2:lZ m_.Out:=ok_len (Ok.agg_at hk.1 3 rfl)
 unfold R06_row at h
 conv=>whnf
 obtain ⟨y56,hc,hk52⟩:=bind_some h
 clear h
 have h:=hc
 clear hc
 refine Cut.mk (mkSt [(1,.im (nI s_)),(2,.im (.ref (zab m_))),(25,.im (nB y56))] [] []) (True) (hT) ?_ (fun hp=>?_)
 conv=>whnf
 obtain ⟨e57,he57z,he57,h⟩:=idx_some h
 refine ⟨_,⟨he57z,map_at he57,rfl⟩,?_⟩
 conv=>whnf
 refine Nf.mk (List.length e57) len_map ?_
 conv=>whnf
 refine Both.mk ?_ ?_<;>intro b58
 replace b58:=beq_ff b58
 obtain ⟨h,b58d⟩:=cfd b58 h
 conv=>whnf
 iterate 3 (refine Both.yes (ff_beq b58) ?_;(conv=>whnf))
 obtain ⟨e59,he59z,he59,h⟩:=idx_some h
 refine ⟨_,⟨he59z,map_at he59,rfl⟩,?_⟩
 conv=>whnf
 iterate 2 (refine Both.yes (ff_beq b58) ?_;(conv=>whnf))
 refine Nf.mk (List.length e59) len_map ?_
 conv=>whnf
 iterate 3 (refine Both.yes (ff_beq b58) ?_;(conv=>whnf))
 refine Both.no b58 ?_
 conv=>whnf
 cases h
 exact Join.mk (eA [])
 replace b58:=beq_ft b58
 obtain ⟨h,b58d⟩:=ctd b58 h
 conv=>whnf
 iterate 8 (refine Both.no (tf_beq b58) ?_;(conv=>whnf))
 refine Both.yes b58 ?_
 conv=>whnf
 cases h
 exact Join.mk (eA [])
 replace h:=hk52
 conv=>whnf
 refine Both.mk ?_ ?_<;>intro b60
 replace h:=cond_t b60 h
 conv=>whnf
 cases h
 conv=>whnf
 exact ⟨rfl,rfl⟩
 replace h:=cond_f b60 h
 conv=>whnf
 obtain ⟨oc,hc,hk61⟩:=bind_some h
 clear h
 have h:=hc
 clear hc
 refine Cut.mkS oc (Y:=Unit) (fun (_:Unit)=>mkSt [] [] []) (fun (_:Unit)=>True) (by rintro ⟨⟩;exact (hT)) ?_ ?_
 conv=>whnf
 refine Loops.iter (fun (s:Nat)=>R06_row.s2 m_ s_ s) (fun a174=>mkSt [(1,.im (nI s_)),(2,.im (.ref (zab m_))),(5,.im (nI (↑a174:Int)))] [] []) (fun a174=>True) h (eA []) (by rintro a174;exact (hT)) ?_
 clear h
 rintro k a174 o hp h ho203
 replace h:R06_row.s2 m_ s_ a174=some o:=h
 unfold R06_row.s2 at h
 conv=>whnf
 refine Both.mk ?_ ?_<;>intro b204
 obtain ⟨h,b204d⟩:=ctd b204 h
 conv=>whnf
 obtain ⟨y218,hc,hk206⟩:=bind_some h
 clear h
 have h:=hc
 clear hc
 refine Cut.mk (mkSt [(1,.im (nI s_)),(2,.im (.ref (zab m_))),(5,.im (nI (↑a174:Int))),(76,.im (nB y218))] [] []) (True) (hT) ?_ (fun hp=>?_)
 conv=>whnf
 obtain ⟨e219,he219z,he219,h⟩:=idx_some h
 refine ⟨_,⟨he219z,map_at he219,rfl⟩,?_⟩
 conv=>whnf
 obtain ⟨e220,he220,h⟩:=zac h
 refine ⟨_,⟨(by omega),map_at he220,rfl⟩,?_⟩
 conv=>whnf
 refine Both.mk ?_ ?_<;>intro b221
 replace b221:=beq_ff b221
 obtain ⟨h,b221d⟩:=cfd b221 h
 conv=>whnf
 iterate 3 (refine Both.yes (ff_beq b221) ?_;(conv=>whnf))
 obtain ⟨e222,he222z,he222,h⟩:=idx_some h
 refine ⟨_,⟨he222z,map_at he222,rfl⟩,?_⟩
 conv=>whnf
 iterate 3 (refine Both.yes (ff_beq b221) ?_;(conv=>whnf))
 obtain ⟨e223,he223,h⟩:=zac h
 refine ⟨_,⟨(by omega),map_at he223,rfl⟩,?_⟩
 conv=>whnf
 iterate 4 (refine Both.yes (ff_beq b221) ?_;(conv=>whnf))
 refine Nf.mk (List.length m_.Next) len_map ?_
 conv=>whnf
 refine Both.yes (ff_beq b221) ?_
 conv=>whnf
 refine Both.no b221 ?_
 conv=>whnf
 refine Both.mk ?_ ?_<;>intro b224
 replace b224:=beq_ff b224
 obtain ⟨h,b224d⟩:=cfd b224 h
 conv=>whnf
 iterate 3 (refine Both.yes (ff_beq b224) ?_;(conv=>whnf))
 obtain ⟨e225,he225z,he225,h⟩:=idx_some h
 refine ⟨_,⟨he225z,map_at he225,rfl⟩,?_⟩
 conv=>whnf
 iterate 3 (refine Both.yes (ff_beq b224) ?_;(conv=>whnf))
 obtain ⟨e226,he226,h⟩:=zac h
 refine ⟨_,⟨(by omega),map_at he226,rfl⟩,?_⟩
 conv=>whnf
 iterate 2 (refine Both.yes (ff_beq b224) ?_;(conv=>whnf))
 refine Both.no b224 ?_
 conv=>whnf
 refine Both.mk ?_ ?_<;>intro b227
 replace b227:=beq_ff b227
 obtain ⟨h,b227d⟩:=cfd b227 h
 conv=>whnf
 iterate 3 (refine Both.yes (ff_beq b227) ?_;(conv=>whnf))
 obtain ⟨e228,he228z,he228,h⟩:=idx_some h
 refine ⟨_,⟨he228z,map_at he228,rfl⟩,?_⟩
 conv=>whnf
 iterate 3 (refine Both.yes (ff_beq b227) ?_;(conv=>whnf))
 obtain ⟨e229,he229,h⟩:=zac h
 refine ⟨_,⟨(by omega),map_at he229,rfl⟩,?_⟩
 conv=>whnf
 iterate 2 (refine Both.yes (ff_beq b227) ?_;(conv=>whnf))
 refine Both.no b227 ?_
 conv=>whnf
 cases h
 exact Join.mk (eA [])
 replace b227:=beq_ft b227
 obtain ⟨h,b227d⟩:=ctd b227 h
 conv=>whnf
 iterate 8 (refine Both.no (tf_beq b227) ?_;(conv=>whnf))
 refine Both.yes b227 ?_
 conv=>whnf
 cases h
 exact Join.mk (eA [])
 replace b224:=beq_ft b224
 obtain ⟨h,b224d⟩:=ctd b224 h
 conv=>whnf
 iterate 8 (refine Both.no (tf_beq b224) ?_;(conv=>whnf))
 refine Both.yes b224 ?_
 conv=>whnf
 iterate 9 (refine Both.no rfl ?_;(conv=>whnf))
 refine Both.yes rfl ?_
 conv=>whnf
 cases h
 exact Join.mk (eA [])
 replace b221:=beq_ft b221
 obtain ⟨h,b221d⟩:=ctd b221 h
 conv=>whnf
 iterate 11 (refine Both.no (tf_beq b221) ?_;(conv=>whnf))
 refine Both.yes b221 ?_
 conv=>whnf
 iterate 9 (refine Both.no rfl ?_;(conv=>whnf))
 refine Both.yes rfl ?_
 conv=>whnf
 iterate 9 (refine Both.no rfl ?_;(conv=>whnf))
 refine Both.yes rfl ?_
 conv=>whnf
 cases h
 exact Join.mk (eA [])
 replace h:=hk206
 conv=>whnf
 refine Both.mk ?_ ?_<;>intro b230
 replace h:=cond_t b230 h
 conv=>whnf
 cases h
 have ho203:_=_:=ho203
 cases ho203
 replace h:some _=some _:=hk61
 cases h
 conv=>whnf
 exact ⟨rfl,rfl⟩
 replace h:=cond_f b230 h
 conv=>whnf
 obtain ⟨c231,h⟩:=chk_some h
 refine Arith.mk c231 ?_
 conv=>whnf
 cases h
 exact Nxt.mk _ ho203 (eA [])
 obtain ⟨h,b204d⟩:=cfd b204 h
 conv=>whnf
 cases h
 have ho203:_=_:=ho203
 cases ho203
 exact JoinS.mk' _ rfl (eA [])
 rintro ⟨⟩ rfl hp
 replace h:=sum_inl hk61
 conv=>whnf
 cases h
 conv=>whnf
 exact ⟨rfl,rfl⟩
theorem zda (m_:zaa) (r:Int) (h:Ok (.agg (zab m_))→zbf m_=some r):Sp Tryz.prog 24 [.im (.agg (zab m_))] (.im (nI r)):=by
 refine sp_of rfl [700001] rfl rfl rfl (Nat.le_of_ble_eq_true rfl) rfl fun hk=>?_
 replace h:=h hk.1
 have z1:lZ m_.Next:=ok_len (Ok.agg_at hk.1 2 rfl)
 have z2:lZ m_.Out:=ok_len (Ok.agg_at hk.1 3 rfl)
 unfold zbf at h
 conv=>whnf
 obtain ⟨y54,hc,hk52⟩:=bind_some h
 clear h
 have h:=hc
 clear hc
 refine Cut.mk (mkSt [(1,.im (.ref (zab m_))),(12,.im (nB y54))] [] []) (True) (hT) ?_ (fun hp=>?_)
 conv=>whnf
 refine Both.mk ?_ ?_<;>intro b55
 replace b55:=beq_ff b55
 obtain ⟨h,b55d⟩:=cfd b55 h
 conv=>whnf
 iterate 2 (refine Both.yes (ff_beq b55) ?_;(conv=>whnf))
 refine Both.no b55 ?_
 conv=>whnf
 cases h
 exact Join.mk (eA [])
 replace b55:=beq_ft b55
 obtain ⟨h,b55d⟩:=ctd b55 h
 conv=>whnf
 iterate 2 (refine Both.no (tf_beq b55) ?_;(conv=>whnf))
 refine Both.yes b55 ?_
 conv=>whnf
 cases h
 exact Join.mk (eA [])
 replace h:=hk52
 conv=>whnf
 refine Both.mk ?_ ?_<;>intro b56
 replace h:=cond_t b56 h
 conv=>whnf
 cases h
 conv=>whnf
 exact ⟨rfl,rfl⟩
 replace h:=cond_f b56 h
 conv=>whnf
 refine Nf.mk (List.length m_.Next) len_map ?_
 conv=>whnf
 refine Both.mk ?_ ?_<;>intro b57
 obtain ⟨h,b57d⟩:=ctd b57 h
 conv=>whnf
 cases h
 conv=>whnf
 exact ⟨rfl,rfl⟩
 obtain ⟨h,b57d⟩:=cfd b57 h
 conv=>whnf
 refine Nf.mk (List.length m_.Next) len_map ?_
 conv=>whnf
 refine Both.mk ?_ ?_<;>intro b58
 obtain ⟨h,b58d⟩:=ctd b58 h
 conv=>whnf
 cases h
 conv=>whnf
 exact ⟨rfl,rfl⟩
 obtain ⟨h,b58d⟩:=cfd b58 h
 conv=>whnf
 obtain ⟨y62,hc,hk60⟩:=bind_some h
 clear h
 have h:=hc
 clear hc
 refine Cut.mk (mkSt [(1,.im (.ref (zab m_))),(31,.im (nB y62))] [] []) (True) (hT) ?_ (fun hp=>?_)
 conv=>whnf
 refine Both.mk ?_ ?_<;>intro b63
 replace b63:=beq_ff b63
 obtain ⟨h,b63d⟩:=cfd b63 h
 conv=>whnf
 iterate 4 (refine Both.yes (ff_beq b63) ?_;(conv=>whnf))
 refine Nf.mk (List.length m_.Next) len_map ?_
 conv=>whnf
 refine Both.yes (ff_beq b63) ?_
 conv=>whnf
 refine Both.no b63 ?_
 conv=>whnf
 cases h
 exact Join.mk (eA [])
 replace b63:=beq_ft b63
 obtain ⟨h,b63d⟩:=ctd b63 h
 conv=>whnf
 iterate 5 (refine Both.no (tf_beq b63) ?_;(conv=>whnf))
 refine Both.yes b63 ?_
 conv=>whnf
 cases h
 exact Join.mk (eA [])
 replace h:=hk60
 conv=>whnf
 refine Both.mk ?_ ?_<;>intro b64
 replace h:=cond_t b64 h
 conv=>whnf
 cases h
 conv=>whnf
 exact ⟨rfl,rfl⟩
 replace h:=cond_f b64 h
 conv=>whnf
 refine Nf.mk (List.length m_.Out) len_map ?_
 conv=>whnf
 refine Nf.mk (List.length m_.Next) len_map ?_
 conv=>whnf
 refine Both.mk ?_ ?_<;>intro b65
 obtain ⟨h,b65d⟩:=ctd b65 h
 conv=>whnf
 cases h
 conv=>whnf
 exact ⟨rfl,rfl⟩
 obtain ⟨h,b65d⟩:=cfd b65 h
 conv=>whnf
 obtain ⟨oc,hc,hk66⟩:=bind_some h
 clear h
 have h:=hc
 clear hc
 refine Cut.mkS oc (Y:=Unit) (fun (_:Unit)=>mkSt [] [] []) (fun (_:Unit)=>True) (by rintro ⟨⟩;exact (hT)) ?_ ?_
 conv=>whnf
 refine Loops.iter (fun (s:Nat)=>zbf.s2 m_ s) (fun s81=>mkSt [(1,.im (.ref (zab m_))),(3,.im (nI (↑s81:Int)))] [] []) (fun s81=>True) h (eA []) (by rintro s81;exact (hT)) ?_
 clear h
 rintro k s81 o hp h ho85
 replace h:zbf.s2 m_ s81=some o:=h
 unfold zbf.s2 at h
 conv=>whnf
 refine Nf.mk (List.length m_.Next) len_map ?_
 conv=>whnf
 refine Both.mk ?_ ?_<;>intro b86
 obtain ⟨h,b86d⟩:=ctd b86 h
 conv=>whnf
 obtain ⟨c87,hc87,h⟩:=bind_some h
 refine ⟨_,(sp_R06_row m_ (↑s81:Int) c87 (fun _ _=>hc87)),?_⟩
 conv=>whnf
 refine Both.mk ?_ ?_<;>intro b88
 obtain ⟨h,b88d⟩:=ctd b88 h
 conv=>whnf
 cases h
 have ho85:_=_:=ho85
 cases ho85
 replace h:some _=some _:=hk66
 cases h
 conv=>whnf
 exact ⟨rfl,rfl⟩
 obtain ⟨h,b88d⟩:=cfd b88 h
 conv=>whnf
 refine Arith.mk (by show inR _;unfold inR;omega) ?_
 conv=>whnf
 cases h
 exact Nxt.mk _ ho85 (eA [])
 obtain ⟨h,b86d⟩:=cfd b86 h
 conv=>whnf
 cases h
 have ho85:_=_:=ho85
 cases ho85
 exact JoinS.mk' _ rfl (eA [])
 rintro ⟨⟩ rfl hp
 replace h:=sum_inl hk66
 conv=>whnf
 cases h
 conv=>whnf
 exact ⟨rfl,rfl⟩
theorem sp_R06_From (m_:zaa) (s_:Int) (w_:List Int) (r:List Int×Int×Int) (h:Ok (.agg (zab m_))→Ok (nI s_)→Ok (nL cI w_)→R06_From m_ s_ w_=some r):Sp Tryz.prog 97 [.im (.agg (zab m_)),.im (nI s_),.im (nL cI w_)] (.tup [nL cI r.1,nI r.2.1,nI r.2.2]):=by
 refine sp_of rfl [700003] rfl rfl rfl (Nat.le_of_ble_eq_true rfl) rfl fun hk=>?_
 replace h:=h hk.1 hk.2.1 hk.2.2.1
 have z1:lZ m_.Next:=ok_len (Ok.agg_at hk.1 2 rfl)
 have z2:lZ m_.Out:=ok_len (Ok.agg_at hk.1 3 rfl)
 have z3:lZ w_:=ok_len hk.2.2.1
 unfold R06_From at h
 conv=>whnf
 obtain ⟨c51,hc51,h⟩:=bind_some h
 refine ⟨_,(zda m_ c51 (fun _=>hc51)),?_⟩
 conv=>whnf
 refine Both.mk ?_ ?_<;>intro b52
 obtain ⟨h,b52d⟩:=ctd b52 h
 conv=>whnf
 cases h
 conv=>whnf
 exact ⟨rfl,rfl⟩
 obtain ⟨h,b52d⟩:=cfd b52 h
 conv=>whnf
 obtain ⟨y56,hc,hk54⟩:=bind_some h
 clear h
 have h:=hc
 clear hc
 refine Cut.mk (mkSt [(1,.im (nI s_)),(2,.im (nL cI w_)),(3,.im (.ref (zab m_))),(26,.im (nB y56))] [] []) (lZ w_∧True) ((Holds.avl 2 rfl).and (hT)) ?_ (fun hp=>?_)
 conv=>whnf
 refine Both.mk ?_ ?_<;>intro b57
 replace b57:=beq_ff b57
 obtain ⟨h,b57d⟩:=cfd b57 h
 conv=>whnf
 iterate 3 (refine Both.yes (ff_beq b57) ?_;(conv=>whnf))
 refine Nf.mk (List.length m_.Next) len_map ?_
 conv=>whnf
 refine Both.yes (ff_beq b57) ?_
 conv=>whnf
 refine Both.no b57 ?_
 conv=>whnf
 cases h
 exact Join.mk (eA [])
 replace b57:=beq_ft b57
 obtain ⟨h,b57d⟩:=ctd b57 h
 conv=>whnf
 iterate 4 (refine Both.no (tf_beq b57) ?_;(conv=>whnf))
 refine Both.yes b57 ?_
 conv=>whnf
 cases h
 exact Join.mk (eA [])
 replace h:=hk54
 obtain ⟨z58,_⟩:=hp
 conv=>whnf
 refine Both.mk ?_ ?_<;>intro b59
 replace h:=cond_t b59 h
 conv=>whnf
 cases h
 conv=>whnf
 exact ⟨rfl,rfl⟩
 replace h:=cond_f b59 h
 conv=>whnf
 obtain ⟨c60,hc60,h⟩:=bind_some h
 refine ⟨_,(zit w_ m_.Inputs c60 (fun _ _=>hc60)),?_⟩
 conv=>whnf
 refine Both.mk ?_ ?_<;>intro b61
 obtain ⟨h,b61d⟩:=ctd b61 h
 conv=>whnf
 cases h
 conv=>whnf
 exact ⟨rfl,rfl⟩
 obtain ⟨h,b61d⟩:=cfd b61 h
 conv=>whnf
 obtain ⟨c62,hc62,h⟩:=bind_some h
 refine ⟨_,(zgu m_ s_ w_ c62 (fun _ _ _=>hc62)),?_⟩
 conv=>whnf
 cases h
 conv=>whnf
 exact ⟨rfl,rfl⟩
theorem sp_R30_tails (m_:zaa) (ids_:List (List (List Int))) (w_:List Int) (r:List (List Int)) (h:Ok (.agg (zab m_))→Ok (nL (cL (cL cI)) ids_)→Ok (nL cI w_)→zf0 m_ ids_ w_=some r):Sp Tryz.prog 70 [.im (.agg (zab m_)),.im (nL (cL (cL cI)) ids_),.im (nL cI w_)] (.im (nL (cL cI) r)):=by
 refine sp_of rfl [700003] rfl rfl rfl (Nat.le_of_ble_eq_true rfl) rfl fun hk=>?_
 replace h:=h hk.1 hk.2.1 hk.2.2.1
 have z1:lZ m_.Next:=ok_len (Ok.agg_at hk.1 2 rfl)
 have z2:lZ m_.Out:=ok_len (Ok.agg_at hk.1 3 rfl)
 have z3:lZ ids_:=ok_len hk.2.1
 have z4:lZ w_:=ok_len hk.2.2.1
 unfold zf0 at h
 conv=>whnf
 obtain ⟨c51,hc51,h⟩:=bind_some h
 refine ⟨_,(sp_R06_From m_ m_.Start w_ c51 (fun _ _ _=>hc51)),?_⟩
 conv=>whnf
 obtain ⟨e52,he52z,he52,h⟩:=idx_some h
 refine ⟨_,⟨he52z,map_at he52,rfl⟩,?_⟩
 conv=>whnf
 refine Nf.mk (List.length e52) len_map ?_
 conv=>whnf
 refine Both.mk ?_ ?_<;>intro b53
 obtain ⟨h,b53d⟩:=ctd b53 h
 conv=>whnf
 cases h
 conv=>whnf
 exact ⟨rfl,rfl⟩
 obtain ⟨h,b53d⟩:=cfd b53 h
 conv=>whnf
 obtain ⟨e54,he54z,he54,h⟩:=idx_some h
 refine ⟨_,⟨he54z,map_at he54,rfl⟩,?_⟩
 conv=>whnf
 cases h
 conv=>whnf
 exact ⟨rfl,rfl⟩
theorem zd0 (a_:List Int) (b_:List Int) (r:Int) (h:Ok (nL cI a_)→Ok (nL cI b_)→zb0 a_ b_=some r):Sp Tryz.prog 51 [.im (nL cI a_),.im (nL cI b_)] (.im (nI r)):=by
 refine sp_of rfl [] rfl rfl rfl (Nat.le_of_ble_eq_true rfl) rfl fun hk=>?_
 replace h:=h hk.1 hk.2.1
 have z1:lZ a_:=ok_len hk.1
 have z2:lZ b_:=ok_len hk.2.1
 unfold zb0 at h
 conv=>whnf
 obtain ⟨i100,hc,hk51⟩:=bind_some h
 clear h
 have h:=hc
 clear hc
 refine Cut.mk (mkSt [(5,.im (nI (↑i100:Int)))] [] []) (True) (hT) ?_ (fun hp=>?_)
 conv=>whnf
 refine Loops.iter (fun (s:Nat)=>zb0.s2 a_ b_ s) (fun i115=>mkSt [(0,.im (nL cI a_)),(1,.im (nL cI b_)),(5,.im (nI (↑i115:Int)))] [] []) (fun i115=>lZ a_∧lZ b_∧True) h (eA []) (by rintro i115;exact ((Holds.avl 0 rfl).and ((Holds.avl 1 rfl).and (hT)))) ?_
 clear h
 rintro k i115 o hp h ho131
 replace h:zb0.s2 a_ b_ i115=some o:=h
 unfold zb0.s2 at h
 obtain ⟨z147,z148,_⟩:=hp
 conv=>whnf
 obtain ⟨y138,hc,hk133⟩:=bind_some h
 clear h
 have h:=hc
 clear hc
 refine Cut.mk (mkSt [(0,.im (nL cI a_)),(1,.im (nL cI b_)),(5,.im (nI (↑i115:Int))),(26,.im (nB y138))] [] []) (lZ a_∧lZ b_∧True) ((Holds.avl 0 rfl).and ((Holds.avl 1 rfl).and (hT))) ?_ (fun hp=>?_)
 conv=>whnf
 refine Nf.mk (List.length a_) len_map ?_
 conv=>whnf
 refine Both.mk ?_ ?_<;>intro b139
 replace b139:=beq_tt b139
 obtain ⟨h,b139d⟩:=ctd b139 h
 conv=>whnf
 iterate 2 (refine Both.yes (tt_beq b139) ?_;(conv=>whnf))
 refine Nf.mk (List.length b_) len_map ?_
 conv=>whnf
 refine Both.yes (tt_beq b139) ?_
 conv=>whnf
 refine Both.yes b139 ?_
 conv=>whnf
 refine Both.mk ?_ ?_<;>intro b140
 replace b140:=beq_tt b140
 obtain ⟨h,b140d⟩:=ctd b140 h
 conv=>whnf
 iterate 2 (refine Both.yes (tt_beq b140) ?_;(conv=>whnf))
 obtain ⟨e141,he141,h⟩:=zac h
 refine ⟨_,⟨(by omega),map_at he141,rfl⟩,?_⟩
 conv=>whnf
 iterate 4 (refine Both.yes (tt_beq b140) ?_;(conv=>whnf))
 obtain ⟨e142,he142,h⟩:=zac h
 refine ⟨_,⟨(by omega),map_at he142,rfl⟩,?_⟩
 conv=>whnf
 iterate 2 (refine Both.yes (tt_beq b140) ?_;(conv=>whnf))
 refine Both.yes b140 ?_
 conv=>whnf
 cases h
 exact Join.mk (eA [])
 replace b140:=beq_tf b140
 obtain ⟨h,b140d⟩:=cfd b140 h
 conv=>whnf
 iterate 8 (refine Both.no (ft_beq b140) ?_;(conv=>whnf))
 refine Both.no b140 ?_
 conv=>whnf
 cases h
 exact Join.mk (eA [])
 replace b139:=beq_tf b139
 obtain ⟨h,b139d⟩:=cfd b139 h
 conv=>whnf
 iterate 3 (refine Both.no (ft_beq b139) ?_;(conv=>whnf))
 refine Both.no b139 ?_
 conv=>whnf
 iterate 10 (refine Both.no rfl ?_;(conv=>whnf))
 cases h
 exact Join.mk (eA [])
 replace h:=hk133
 obtain ⟨z143,z144,_⟩:=hp
 conv=>whnf
 refine Both.mk ?_ ?_<;>intro b145
 replace h:=cond_t b145 h
 conv=>whnf
 obtain ⟨c146,h⟩:=chk_some h
 refine Arith.mk c146 ?_
 conv=>whnf
 cases h
 exact Nxt.mk _ ho131 (eA [])
 replace h:=cond_f b145 h
 conv=>whnf
 cases h
 have ho131:_=_:=ho131
 cases ho131
 exact Join.mk (eA [])
 replace h:=hk51
 conv=>whnf
 cases h
 conv=>whnf
 exact ⟨rfl,rfl⟩
theorem sp_R01_Lex (a_:List Int) (b_:List Int) (r:Int) (h:Ok (nL cI a_)→Ok (nL cI b_)→R01_Lex a_ b_=some r):Sp Tryz.prog 128 [.im (nL cI a_),.im (nL cI b_)] (.im (nI r)):=by
 refine sp_of rfl [] rfl rfl rfl (Nat.le_of_ble_eq_true rfl) rfl fun hk=>?_
 replace h:=h hk.1 hk.2.1
 have z1:lZ a_:=ok_len hk.1
 have z2:lZ b_:=ok_len hk.2.1
 unfold R01_Lex at h
 conv=>whnf
 obtain ⟨c51,hc51,h⟩:=bind_some h
 refine ⟨_,(zd0 a_ b_ c51 (fun _ _=>hc51)),?_⟩
 conv=>whnf
 obtain ⟨y55,hc,hk53⟩:=bind_some h
 clear h
 have h:=hc
 clear hc
 refine Cut.mk (mkSt [(0,.im (nL cI a_)),(1,.im (nL cI b_)),(5,.im (nI c51)),(9,.im (nB y55))] [] []) (lZ a_∧lZ b_∧True) ((Holds.avl 0 rfl).and ((Holds.avl 1 rfl).and (hT))) ?_ (fun hp=>?_)
 conv=>whnf
 refine Nf.mk (List.length a_) len_map ?_
 conv=>whnf
 refine Both.mk ?_ ?_<;>intro b56
 replace b56:=beq_tt b56
 obtain ⟨h,b56d⟩:=ctd b56 h
 conv=>whnf
 iterate 2 (refine Both.yes (tt_beq b56) ?_;(conv=>whnf))
 refine Nf.mk (List.length b_) len_map ?_
 conv=>whnf
 refine Both.yes (tt_beq b56) ?_
 conv=>whnf
 refine Both.yes b56 ?_
 conv=>whnf
 cases h
 exact Join.mk (eA [])
 replace b56:=beq_tf b56
 obtain ⟨h,b56d⟩:=cfd b56 h
 conv=>whnf
 iterate 3 (refine Both.no (ft_beq b56) ?_;(conv=>whnf))
 refine Both.no b56 ?_
 conv=>whnf
 cases h
 exact Join.mk (eA [])
 replace h:=hk53
 obtain ⟨z57,z58,_⟩:=hp
 conv=>whnf
 refine Both.mk ?_ ?_<;>intro b59
 replace h:=cond_t b59 h
 conv=>whnf
 cases h
 conv=>whnf
 exact ⟨rfl,rfl⟩
 replace h:=cond_f b59 h
 conv=>whnf
 obtain ⟨y66,hc,hk61⟩:=bind_some h
 clear h
 have h:=hc
 clear hc
 refine Cut.mk (mkSt [(20,.im (nB y66))] [] []) (True) (hT) ?_ (fun hp=>?_)
 conv=>whnf
 refine Nf.mk (List.length a_) len_map ?_
 conv=>whnf
 refine Both.mk ?_ ?_<;>intro b67
 obtain ⟨h,b67d⟩:=ctd b67 h
 conv=>whnf
 cases h
 exact Join.mk (eA [])
 obtain ⟨h,b67d⟩:=cfd b67 h
 conv=>whnf
 refine Nf.mk (List.length b_) len_map ?_
 conv=>whnf
 refine Both.mk ?_ ?_<;>intro b68
 replace b68:=beq_tt b68
 obtain ⟨h,b68d⟩:=ctd b68 h
 conv=>whnf
 iterate 2 (refine Both.yes (tt_beq b68) ?_;(conv=>whnf))
 obtain ⟨e69,he69z,he69,h⟩:=idx_some h
 refine ⟨_,⟨he69z,map_at he69,rfl⟩,?_⟩
 conv=>whnf
 iterate 4 (refine Both.yes (tt_beq b68) ?_;(conv=>whnf))
 obtain ⟨e70,he70z,he70,h⟩:=idx_some h
 refine ⟨_,⟨he70z,map_at he70,rfl⟩,?_⟩
 conv=>whnf
 iterate 2 (refine Both.yes (tt_beq b68) ?_;(conv=>whnf))
 refine Both.yes b68 ?_
 conv=>whnf
 cases h
 exact Join.mk (eA [])
 replace b68:=beq_tf b68
 obtain ⟨h,b68d⟩:=cfd b68 h
 conv=>whnf
 iterate 8 (refine Both.no (ft_beq b68) ?_;(conv=>whnf))
 refine Both.no b68 ?_
 conv=>whnf
 cases h
 exact Join.mk (eA [])
 replace h:=hk61
 conv=>whnf
 refine Both.mk ?_ ?_<;>intro b71
 replace h:=cond_t b71 h
 conv=>whnf
 cases h
 conv=>whnf
 exact ⟨rfl,rfl⟩
 replace h:=cond_f b71 h
 conv=>whnf
 cases h
 conv=>whnf
 exact ⟨rfl,rfl⟩
theorem zle (a_:List Int) (b_:List Int) (r:Int) (h:Ok (nL cI a_)→Ok (nL cI b_)→zd5 a_ b_=some r):Sp Tryz.prog 122 [.im (nL cI a_),.im (nL cI b_)] (.im (nI r)):=by
 refine sp_of rfl [] rfl rfl rfl (Nat.le_of_ble_eq_true rfl) rfl fun hk=>?_
 replace h:=h hk.1 hk.2.1
 have z1:lZ a_:=ok_len hk.1
 have z2:lZ b_:=ok_len hk.2.1
 unfold zd5 at h
 conv=>whnf
 refine Nf.mk (List.length a_) len_map ?_
 conv=>whnf
 refine Nf.mk (List.length b_) len_map ?_
 conv=>whnf
 refine Both.mk ?_ ?_<;>intro b51
 obtain ⟨h,b51d⟩:=ctd b51 h
 conv=>whnf
 cases h
 conv=>whnf
 exact ⟨rfl,rfl⟩
 obtain ⟨h,b51d⟩:=cfd b51 h
 conv=>whnf
 refine Nf.mk (List.length a_) len_map ?_
 conv=>whnf
 refine Nf.mk (List.length b_) len_map ?_
 conv=>whnf
 refine Both.mk ?_ ?_<;>intro b52
 obtain ⟨h,b52d⟩:=ctd b52 h
 conv=>whnf
 cases h
 conv=>whnf
 exact ⟨rfl,rfl⟩
 obtain ⟨h,b52d⟩:=cfd b52 h
 conv=>whnf
 obtain ⟨c53,hc53,h⟩:=bind_some h
 refine ⟨_,(sp_R01_Lex a_ b_ c53 (fun _ _=>hc53)),?_⟩
 conv=>whnf
 cases h
 conv=>whnf
 exact ⟨rfl,rfl⟩
theorem sp_R02_place (l_:List (List Int)) (w_:List Int) (r:Int) (h:Ok (nL (cL cI) l_)→Ok (nL cI w_)→zcy l_ w_=some r):Sp Tryz.prog 109 [.im (nL (cL cI) l_),.im (nL cI w_)] (.im (nI r)):=by
 refine sp_of rfl [] rfl rfl rfl (Nat.le_of_ble_eq_true rfl) rfl fun hk=>?_
 replace h:=h hk.1 hk.2.1
 have z1:lZ l_:=ok_len hk.1
 have z2:lZ w_:=ok_len hk.2.1
 unfold zcy at h
 conv=>whnf
 refine Nf.mk (List.length l_) len_map ?_
 conv=>whnf
 obtain ⟨low77,hc,hk51⟩:=bind_some h
 clear h
 have h:=hc
 clear hc
 refine Cut.mk (mkSt [(5,.im (nI (↑low77:Int)))] [] []) (True) (hT) ?_ (fun hp=>?_)
 conv=>whnf
 refine Loops.iter (fun (s:Nat×Nat)=>zcy.s2 l_ w_ s.1 s.2) (fun (low84,high85)=>mkSt [(0,.im (nL (cL cI) l_)),(1,.im (nL cI w_)),(5,.im (nI (↑low84:Int))),(6,.im (nI (↑high85:Int)))] [] []) (fun (low84,high85)=>lZ l_∧lZ w_∧True) h (eA []) (by rintro ⟨low84,high85⟩;exact ((Holds.avl 0 rfl).and ((Holds.avl 1 rfl).and (hT)))) ?_
 clear h
 rintro k ⟨low84,high85⟩ o hp h ho93
 replace h:zcy.s2 l_ w_ low84 high85=some o:=h
 unfold zcy.s2 at h
 obtain ⟨z101,z102,_⟩:=hp
 conv=>whnf
 refine Both.mk ?_ ?_<;>intro b94
 obtain ⟨h,b94d⟩:=ctd b94 h
 conv=>whnf
 obtain ⟨c95,h⟩:=chk_some h
 refine Arith.mk c95 ?_
 conv=>whnf
 obtain ⟨c96,h⟩:=chk_some h
 refine Side.mk c96 ?_
 conv=>whnf
 obtain ⟨e97,he97,h⟩:=zac h
 refine ⟨_,⟨(by omega),map_at he97,rfl⟩,?_⟩
 conv=>whnf
 obtain ⟨c98,hc98,h⟩:=bind_some h
 refine ⟨_,(zle e97 w_ c98 (fun _ _=>hc98)),?_⟩
 conv=>whnf
 refine Both.mk ?_ ?_<;>intro b99
 obtain ⟨h,b99d⟩:=ctd b99 h
 conv=>whnf
 obtain ⟨c100,h⟩:=chk_some h
 refine Arith.mk c100 ?_
 conv=>whnf
 cases h
 exact Nxt.mk _ ho93 (eA [])
 obtain ⟨h,b99d⟩:=cfd b99 h
 conv=>whnf
 cases h
 exact Nxt.mk _ ho93 (eA [])
 obtain ⟨h,b94d⟩:=cfd b94 h
 conv=>whnf
 cases h
 have ho93:_=_:=ho93
 cases ho93
 exact Join.mk (eA [])
 replace h:=hk51
 conv=>whnf
 cases h
 conv=>whnf
 exact ⟨rfl,rfl⟩
theorem sp_R01_Same (a_:List Int) (b_:List Int) (r:Bool) (h:Ok (nL cI a_)→Ok (nL cI b_)→R01_Same a_ b_=some r):Sp Tryz.prog 110 [.im (nL cI a_),.im (nL cI b_)] (.im (nB r)):=by
 refine sp_of rfl [] rfl rfl rfl (Nat.le_of_ble_eq_true rfl) rfl fun hk=>?_
 replace h:=h hk.1 hk.2.1
 have z1:lZ a_:=ok_len hk.1
 have z2:lZ b_:=ok_len hk.2.1
 unfold R01_Same at h
 conv=>whnf
 obtain ⟨y55,hc,hk52⟩:=bind_some h
 clear h
 have h:=hc
 clear hc
 refine Cut.mk (mkSt [(4,.im (nB y55))] [] []) (True) (hT) ?_ (fun hp=>?_)
 conv=>whnf
 refine Nf.mk (List.length a_) len_map ?_
 conv=>whnf
 refine Nf.mk (List.length b_) len_map ?_
 conv=>whnf
 refine Both.mk ?_ ?_<;>intro b56
 replace b56:=beq_tt b56
 obtain ⟨h,b56d⟩:=ctd b56 h
 conv=>whnf
 iterate 2 (refine Both.yes (tt_beq b56) ?_;(conv=>whnf))
 obtain ⟨c57,hc57,h⟩:=bind_some h
 refine ⟨_,(zd0 a_ b_ c57 (fun _ _=>hc57)),?_⟩
 conv=>whnf
 iterate 2 (refine Both.yes (tt_beq b56) ?_;(conv=>whnf))
 refine Nf.mk (List.length a_) len_map ?_
 conv=>whnf
 refine Both.yes (tt_beq b56) ?_
 conv=>whnf
 refine Both.yes b56 ?_
 conv=>whnf
 cases h
 exact Join.mk (eA [])
 replace b56:=beq_tf b56
 obtain ⟨h,b56d⟩:=cfd b56 h
 conv=>whnf
 iterate 5 (refine Both.no (ft_beq b56) ?_;(conv=>whnf))
 refine Both.no b56 ?_
 conv=>whnf
 cases h
 exact Join.mk (eA [])
 replace h:=hk52
 conv=>whnf
 cases h
 conv=>whnf
 exact ⟨rfl,rfl⟩
theorem sp_R02_with (l_:List (List Int)) (w_:List Int) (r:List (List Int)) (h:OkL (List.map (cL cI) l_)→Ok (nL cI w_)→R02_with l_ w_=some r):Sp Tryz.prog 96 [.row 47 1 (List.map (cL cI) l_),.im (nL cI w_)] (.row 47 1 (List.map (cL cI) r)):=by
 refine sp_of rfl [44,500009] rfl rfl rfl (Nat.le_of_ble_eq_true rfl) rfl fun hk=>?_
 replace h:=h hk.1 hk.2.1
 have z1:lZ l_:=okl_len hk.1
 have z2:lZ w_:=ok_len hk.2.1
 unfold R02_with at h
 conv=>whnf
 refine Side.mk ⟨rfl,trivial⟩ ?_
 conv=>whnf
 obtain ⟨c51,hc51,h⟩:=bind_some h
 refine ⟨_,(sp_R02_place l_ w_ c51 (fun _ _=>hc51)),?_⟩
 conv=>whnf
 refine Side.mk flat_one ?_
 conv=>whnf
 obtain ⟨y57,hc,hk53⟩:=bind_some h
 clear h
 have h:=hc
 clear hc
 refine Cut.mk (mkSt [(0,.osl 64 1),(1,.im (nL cI w_)),(5,.im (nI c51)),(21,.im (nB y57))] [(64,.row 47 1 (List.map (cL cI) l_))] []) (lZ w_∧lZ l_∧True) ((Holds.avl 1 rfl).and ((Holds.kdl 64 rfl).and (hT))) ?_ (fun hp=>?_)
 conv=>whnf
 refine Side.mk rfl ?_
 conv=>whnf
 refine Nf.mk (List.length l_) len_map ?_
 conv=>whnf
 refine Both.mk ?_ ?_<;>intro b58
 replace b58:=beq_tt b58
 obtain ⟨h,b58d⟩:=ctd b58 h
 conv=>whnf
 iterate 2 (refine Both.yes (tt_beq b58) ?_;(conv=>whnf))
 obtain ⟨e59,he59z,he59,h⟩:=idx_some h
 refine Side.mk ⟨he59z,rfl,map_lt he59⟩ ?_
 conv=>whnf
 refine Both.yes (tt_beq b58) ?_
 conv=>whnf
 refine ⟨_,_,⟨rfl,map_at he59,rfl,rfl⟩,?_⟩
 conv=>whnf
 iterate 2 (refine Both.yes (tt_beq b58) ?_;(conv=>whnf))
 obtain ⟨c60,hc60,h⟩:=bind_some h
 refine ⟨_,(sp_R01_Same e59 w_ c60 (fun _ _=>hc60)),?_⟩
 conv=>whnf
 refine Both.yes b58 ?_
 conv=>whnf
 cases h
 exact Join.mk (eA [(64,some 0)])
 replace b58:=beq_tf b58
 obtain ⟨h,b58d⟩:=cfd b58 h
 conv=>whnf
 iterate 5 (refine Both.no (ft_beq b58) ?_;(conv=>whnf))
 refine Both.no b58 ?_
 conv=>whnf
 cases h
 exact Join.mk (eA [(64,some 0)])
 replace h:=hk53
 obtain ⟨z61,z62,_⟩:=hp
 conv=>whnf
 refine Both.mk ?_ ?_<;>intro b63
 replace h:=cond_t b63 h
 conv=>whnf
 cases h
 conv=>whnf
 exact Side.mk ⟨rfl,trivial⟩ ⟨rfl,rfl⟩
 replace h:=cond_f b63 h
 conv=>whnf
 obtain ⟨c64,h⟩:=chk_some h
 refine Side.mk ⟨rfl,map_len (l:=[[]]) (c:=cL cI) fun _=>rfl,show capOk _ 24 by simpa only [List.length_map,List.length_cons,List.length_nil,Nat.zero_add] using c64⟩ ?_
 conv=>whnf
 refine Nf.mk (List.map (cL cI) (l_++[[]])) (app_map (l:=l_) (m:=[[]]) (c:=cL cI)) ?_
 conv=>whnf
 refine Side.mk rfl ?_
 conv=>whnf
 refine Nf.mk (List.length (l_++[[]])) len_map ?_
 conv=>whnf
 obtain ⟨c65,h⟩:=chk_some h
 refine Arith.mk c65 ?_
 conv=>whnf
 obtain ⟨y87,hc,hk66⟩:=bind_some h
 clear h
 have h:=hc
 clear hc
 refine Cut.mk (mkSt [(0,.osl 64 1),(1,.im (nL cI w_)),(5,.im (nI c51))] [(64,.row 47 1 (List.map (cL cI) y87))] []) (lZ w_∧lZ y87∧True) ((Holds.avl 1 rfl).and ((Holds.kdl 64 rfl).and (hT))) ?_ (fun hp=>?_)
 conv=>whnf
 refine Loops.iter (fun (s:List (List Int)×Int)=>R02_with.s2 c51 s.1 s.2) (fun (y93,i94)=>mkSt [(0,.osl 64 1),(1,.im (nL cI w_)),(5,.im (nI c51)),(6,.im (nI i94))] [(64,.row 47 1 (List.map (cL cI) y93))] []) (fun (y93,i94)=>lZ w_∧lZ y93∧True) h (eA [(64,some 64)]) (by rintro ⟨y93,i94⟩;exact ((Holds.avl 1 rfl).and ((Holds.kdl 64 rfl).and (hT)))) ?_
 clear h
 rintro k ⟨y93,i94⟩ o hp h ho100
 replace h:R02_with.s2 c51 y93 i94=some o:=h
 unfold R02_with.s2 at h
 obtain ⟨z106,z107,_⟩:=hp
 conv=>whnf
 refine Both.mk ?_ ?_<;>intro b101
 obtain ⟨h,b101d⟩:=ctd b101 h
 conv=>whnf
 obtain ⟨c102,h⟩:=chk_some h
 refine Arith.mk c102 ?_
 conv=>whnf
 obtain ⟨e103,he103z,he103,h⟩:=idx_some h
 refine Side.mk ⟨he103z,rfl,map_lt he103⟩ ?_
 conv=>whnf
 refine ⟨_,_,⟨rfl,map_at he103,rfl,rfl⟩,?_⟩
 conv=>whnf
 obtain ⟨e104,he104z,he104,h⟩:=idx_some h
 refine Side.mk ⟨he104z,rfl,map_lt he104⟩ ?_
 conv=>whnf
 refine Side.mk ⟨rfl,trivial⟩ ?_
 conv=>whnf
 refine ⟨_,map_at he104,?_⟩
 conv=>whnf
 refine Nf.mk (List.map (cL cI) (List.set y93 i94.toNat e103)) (set_map rfl) ?_
 conv=>whnf
 obtain ⟨c105,h⟩:=chk_some h
 refine Arith.mk c105 ?_
 conv=>whnf
 cases h
 exact Nxt.mk _ ho100 (eA [(64,some 64)])
 obtain ⟨h,b101d⟩:=cfd b101 h
 conv=>whnf
 cases h
 have ho100:_=_:=ho100
 cases ho100
 exact Join.mk (eA [(64,some 64)])
 replace h:=hk66
 obtain ⟨z108,z109,_⟩:=hp
 conv=>whnf
 obtain ⟨c110,h⟩:=chk_some h
 refine Side.mk ⟨rfl,map_len (l:=w_) (c:=cI) fun _=>rfl,show capOk _ 8 by simpa only [List.length_map,List.length_cons,List.length_nil,Nat.zero_add] using c110⟩ ?_
 conv=>whnf
 refine Nf.mk (List.map cI ([]++w_)) (app_map (l:=[]) (m:=w_) (c:=cI)) ?_
 conv=>whnf
 obtain ⟨e111,he111z,he111,h⟩:=idx_some h
 refine Side.mk ⟨he111z,rfl,map_lt he111⟩ ?_
 conv=>whnf
 refine Side.mk ⟨rfl,rfl,trivial⟩ ?_
 conv=>whnf
 refine ⟨_,map_at he111,?_⟩
 conv=>whnf
 refine Nf.mk (List.map (cL cI) (List.set y87 c51.toNat ([]++w_))) (set_map rfl) ?_
 conv=>whnf
 cases h
 conv=>whnf
 exact Side.mk ⟨rfl,trivial⟩ ⟨rfl,rfl⟩
theorem zho (l_:List (List Int)) (r:List (List Int)) (h:Ok (nL (cL cI) l_)→zb9 l_=some r):Sp Tryz.prog 69 [.im (nL (cL cI) l_)] (.row 47 1 (List.map (cL cI) r)):=by
 refine sp_of rfl [17000] rfl rfl rfl (Nat.le_of_ble_eq_true rfl) rfl fun hk=>?_
 replace h:=h hk.1
 have z1:lZ l_:=ok_len hk.1
 unfold zb9 at h
 conv=>whnf
 obtain ⟨y66,hc,hk51⟩:=bind_some h
 clear h
 have h:=hc
 clear hc
 refine Cut.mk (mkSt [(3,.osl 64 1)] [(64,.row 47 1 (List.map (cL cI) y66))] []) (lZ y66∧True) ((Holds.kdl 64 rfl).and (hT)) ?_ (fun hp=>?_)
 conv=>whnf
 refine Loops.iter (fun (s:List (List Int)×Nat)=>zb9.s2 l_ s.1 s.2) (fun (y70,i71)=>mkSt [(0,.im (nL (cL cI) l_)),(3,.osl 64 1),(4,.im (nI (↑i71:Int)))] [(64,.row 47 1 (List.map (cL cI) y70))] []) (fun (y70,i71)=>lZ l_∧lZ y70∧True) h (eA [(64,none)]) (by rintro ⟨y70,i71⟩;exact ((Holds.avl 0 rfl).and ((Holds.kdl 64 rfl).and (hT)))) ?_
 clear h
 rintro k ⟨y70,i71⟩ o hp h ho75
 replace h:zb9.s2 l_ y70 i71=some o:=h
 unfold zb9.s2 at h
 obtain ⟨z79,z80,_⟩:=hp
 conv=>whnf
 refine Nf.mk (List.length l_) len_map ?_
 conv=>whnf
 refine Both.mk ?_ ?_<;>intro b76
 obtain ⟨h,b76d⟩:=ctd b76 h
 conv=>whnf
 obtain ⟨e77,he77,h⟩:=zac h
 refine ⟨_,⟨(by omega),map_at he77,rfl⟩,?_⟩
 conv=>whnf
 refine Side.mk ⟨rfl,trivial⟩ ?_
 conv=>whnf
 obtain ⟨c78,hc78,h⟩:=bind_some h
 refine ⟨_,(sp_R02_with y70 e77 c78 (fun _ _=>hc78)),?_⟩
 conv=>whnf
 refine Arith.mk (by show inR _;unfold inR;omega) ?_
 conv=>whnf
 cases h
 exact Nxt.mk _ ho75 (eA [(64,some 16)])
 obtain ⟨h,b76d⟩:=cfd b76 h
 conv=>whnf
 cases h
 have ho75:_=_:=ho75
 cases ho75
 exact Join.mk (eA [(64,some 64)])
 replace h:=hk51
 obtain ⟨z81,_⟩:=hp
 conv=>whnf
 cases h
 conv=>whnf
 exact Side.mk ⟨rfl,trivial⟩ ⟨rfl,rfl⟩
theorem zfh (w_:List Int) (p_:List Int) (r:Bool) (h:Ok (nL cI w_)→Ok (nL cI p_)→zc1 w_ p_=some r):Sp Tryz.prog 50 [.im (nL cI w_),.im (nL cI p_)] (.im (nB r)):=by
 refine sp_of rfl [] rfl rfl rfl (Nat.le_of_ble_eq_true rfl) rfl fun hk=>?_
 replace h:=h hk.1 hk.2.1
 have z1:lZ w_:=ok_len hk.1
 have z2:lZ p_:=ok_len hk.2.1
 unfold zc1 at h
 conv=>whnf
 obtain ⟨c51,hc51,h⟩:=bind_some h
 refine ⟨_,(zd0 w_ p_ c51 (fun _ _=>hc51)),?_⟩
 conv=>whnf
 refine Nf.mk (List.length p_) len_map ?_
 conv=>whnf
 cases h
 conv=>whnf
 exact ⟨rfl,rfl⟩
theorem zk7 (l_:List (List Int)) (r:List (List Int)) (h:Ok (nL (cL cI) l_)→zbd l_=some r):Sp Tryz.prog 72 [.im (nL (cL cI) l_)] (.row 47 1 (List.map (cL cI) r)):=by
 refine sp_of rfl [] rfl rfl rfl (Nat.le_of_ble_eq_true rfl) rfl fun hk=>?_
 replace h:=h hk.1
 have z1:lZ l_:=ok_len hk.1
 unfold zbd at h
 conv=>whnf
 obtain ⟨c51,hc51,h⟩:=bind_some h
 refine ⟨_,(zho l_ c51 (fun _=>hc51)).im,?_⟩
 conv=>whnf
 obtain ⟨y246,hc,hk52⟩:=bind_some h
 clear h
 have h:=hc
 clear hc
 refine Cut.mk (mkSt [(4,.osl 64 1)] [(64,.row 47 1 (List.map (cL cI) y246))] []) (lZ y246∧True) ((Holds.kdl 64 rfl).and (hT)) ?_ (fun hp=>?_)
 conv=>whnf
 refine Loops.iter (fun (s:List (List Int)×Nat)=>zbd.s14 c51 s.1 s.2) (fun (y307,i308)=>mkSt [(3,.im (nL (cL cI) c51)),(4,.osl 64 1),(5,.im (nI (↑i308:Int)))] [(64,.row 47 1 (List.map (cL cI) y307))] []) (fun (y307,i308)=>lZ c51∧lZ y307∧True) h (eA [(64,none)]) (by rintro ⟨y307,i308⟩;exact ((Holds.avl 3 rfl).and ((Holds.kdl 64 rfl).and (hT)))) ?_
 clear h
 rintro k ⟨y307,i308⟩ o hp h ho373
 replace h:zbd.s14 c51 y307 i308=some o:=h
 unfold zbd.s14 at h
 obtain ⟨z438,z439,_⟩:=hp
 conv=>whnf
 refine Nf.mk (List.length c51) len_map ?_
 conv=>whnf
 refine Both.mk ?_ ?_<;>intro b374
 obtain ⟨h,b374d⟩:=ctd b374 h
 conv=>whnf
 refine Arith.mk (by show inR _;unfold inR;omega) ?_
 conv=>whnf
 obtain ⟨top404,hc,hk375⟩:=bind_some h
 clear h
 have h:=hc
 clear hc
 refine Cut.mk (mkSt [(3,.im (nL (cL cI) c51)),(4,.osl 64 1),(5,.im (nI (↑i308:Int))),(6,.im (nB top404))] [(64,.row 47 1 (List.map (cL cI) y307))] []) (lZ c51∧lZ y307∧True) ((Holds.avl 3 rfl).and ((Holds.kdl 64 rfl).and (hT))) ?_ (fun hp=>?_)
 conv=>whnf
 refine Loops.iter (fun (s:Bool×Nat)=>zbd.s13 c51 i308 s.1 s.2) (fun (top412,k413)=>mkSt [(3,.im (nL (cL cI) c51)),(4,.osl 64 1),(5,.im (nI (↑i308:Int))),(6,.im (nB top412)),(7,.im (nI (↑k413:Int)))] [(64,.row 47 1 (List.map (cL cI) y307))] []) (fun (top412,k413)=>lZ c51∧lZ y307∧True) h (eA [(64,some 64)]) (by rintro ⟨top412,k413⟩;exact ((Holds.avl 3 rfl).and ((Holds.kdl 64 rfl).and (hT)))) ?_
 clear h
 rintro k ⟨top412,k413⟩ o hp h ho422
 replace h:zbd.s13 c51 i308 top412 k413=some o:=h
 unfold zbd.s13 at h
 obtain ⟨z431,z432,_⟩:=hp
 conv=>whnf
 refine Nf.mk (List.length c51) len_map ?_
 conv=>whnf
 refine Both.mk ?_ ?_<;>intro b423
 obtain ⟨h,b423d⟩:=ctd b423 h
 conv=>whnf
 refine Both.mk ?_ ?_<;>intro b424
 replace b424:=beq_tt b424
 replace h:=cond_t b424 h
 conv=>whnf
 iterate 2 (refine Both.yes (tt_beq b424) ?_;(conv=>whnf))
 obtain ⟨e425,he425,h⟩:=zac h
 refine ⟨_,⟨(by omega),map_at he425,rfl⟩,?_⟩
 conv=>whnf
 iterate 2 (refine Both.yes (tt_beq b424) ?_;(conv=>whnf))
 refine Nf.mk (List.length e425) len_map ?_
 conv=>whnf
 iterate 3 (refine Both.yes (tt_beq b424) ?_;(conv=>whnf))
 obtain ⟨e426,he426,h⟩:=zac h
 refine ⟨_,⟨(by omega),map_at he426,rfl⟩,?_⟩
 conv=>whnf
 iterate 2 (refine Both.yes (tt_beq b424) ?_;(conv=>whnf))
 refine Nf.mk (List.length e426) len_map ?_
 conv=>whnf
 iterate 2 (refine Both.yes (tt_beq b424) ?_;(conv=>whnf))
 refine Both.mk ?_ ?_<;>intro b427
 replace b427:=beq_ff b427
 obtain ⟨h,b427d⟩:=cfd b427 h
 conv=>whnf
 iterate 2 (refine Both.yes (ff_beq b427) ?_;(conv=>whnf))
 obtain ⟨e428,he428,h⟩:=zac h
 refine ⟨_,⟨(by omega),map_at he428,rfl⟩,?_⟩
 conv=>whnf
 iterate 4 (refine Both.yes (ff_beq b427) ?_;(conv=>whnf))
 obtain ⟨e429,he429,h⟩:=zac h
 refine ⟨_,⟨(by omega),map_at he429,rfl⟩,?_⟩
 conv=>whnf
 iterate 2 (refine Both.yes (ff_beq b427) ?_;(conv=>whnf))
 obtain ⟨c430,hc430,h⟩:=bind_some h
 refine ⟨_,(zfh e428 e429 c430 (fun _ _=>hc430)),?_⟩
 conv=>whnf
 refine Both.yes (ff_beq b427) ?_
 conv=>whnf
 refine Both.yes (tt_beq b424) ?_
 conv=>whnf
 refine Both.no b427 ?_
 conv=>whnf
 refine Both.yes b424 ?_
 conv=>whnf
 refine Arith.mk (by show inR _;unfold inR;omega) ?_
 conv=>whnf
 cases h
 exact Nxt.mk _ ho422 (eA [(64,some 64)])
 replace b427:=beq_ft b427
 obtain ⟨h,b427d⟩:=ctd b427 h
 conv=>whnf
 iterate 9 (refine Both.no (tf_beq b427) ?_;(conv=>whnf))
 refine Both.yes (tt_beq b424) ?_
 conv=>whnf
 refine Both.yes b427 ?_
 conv=>whnf
 refine Both.yes b424 ?_
 conv=>whnf
 refine Arith.mk (by show inR _;unfold inR;omega) ?_
 conv=>whnf
 cases h
 exact Nxt.mk _ ho422 (eA [(64,some 64)])
 replace b424:=beq_tf b424
 replace h:=cond_f b424 h
 conv=>whnf
 iterate 12 (refine Both.no (ft_beq b424) ?_;(conv=>whnf))
 refine Both.no b424 ?_
 conv=>whnf
 refine Arith.mk (by show inR _;unfold inR;omega) ?_
 conv=>whnf
 cases h
 exact Nxt.mk _ ho422 (eA [(64,some 64)])
 obtain ⟨h,b423d⟩:=cfd b423 h
 conv=>whnf
 cases h
 have ho422:_=_:=ho422
 cases ho422
 exact Join.mk (eA [(64,some 64)])
 replace h:=hk375
 obtain ⟨z433,z434,_⟩:=hp
 conv=>whnf
 refine Both.mk ?_ ?_<;>intro b435
 replace h:=cond_t b435 h
 conv=>whnf
 obtain ⟨e436,he436,h⟩:=zac h
 refine ⟨_,⟨(by omega),map_at he436,rfl⟩,?_⟩
 conv=>whnf
 obtain ⟨c437,h⟩:=chk_some h
 refine Side.mk ⟨rfl,map_len (l:=[e436]) (c:=cL cI) fun _=>rfl,show capOk _ 24 by simpa only [List.length_map,List.length_cons,List.length_nil,Nat.zero_add] using c437⟩ ?_
 conv=>whnf
 refine Nf.mk (List.map (cL cI) (y307++[e436])) (app_map (l:=y307) (m:=[e436]) (c:=cL cI)) ?_
 conv=>whnf
 refine Arith.mk (by show inR _;unfold inR;omega) ?_
 conv=>whnf
 cases h
 exact Nxt.mk _ ho373 (eA [(64,some 64)])
 replace h:=cond_f b435 h
 conv=>whnf
 refine Arith.mk (by show inR _;unfold inR;omega) ?_
 conv=>whnf
 cases h
 exact Nxt.mk _ ho373 (eA [(64,some 64)])
 obtain ⟨h,b374d⟩:=cfd b374 h
 conv=>whnf
 cases h
 have ho373:_=_:=ho373
 cases ho373
 exact Join.mk (eA [(64,some 64)])
 replace h:=hk52
 obtain ⟨z440,_⟩:=hp
 conv=>whnf
 cases h
 conv=>whnf
 exact Side.mk ⟨rfl,trivial⟩ ⟨rfl,rfl⟩
theorem sp_R30_Made (n_:zaa) (front_:List (List Int)) (middle_:List (List Int)) (ids_:List (List (List Int))) (r:List (List Int)×Int) (h:Ok (.agg (zab n_))→Ok (nL (cL cI) front_)→Ok (nL (cL cI) middle_)→Ok (nL (cL (cL cI)) ids_)→R30_Made n_ front_ middle_ ids_=some r):Sp Tryz.prog 41 [.im (.agg (zab n_)),.im (nL (cL cI) front_),.im (nL (cL cI) middle_),.im (nL (cL (cL cI)) ids_)] (.tup [nL (cL cI) r.1,nI r.2]):=by
 refine sp_of rfl [700004] rfl rfl rfl (Nat.le_of_ble_eq_true rfl) rfl fun hk=>?_
 replace h:=h hk.1 hk.2.1 hk.2.2.1 hk.2.2.2.1
 have z1:lZ n_.Next:=ok_len (Ok.agg_at hk.1 2 rfl)
 have z2:lZ n_.Out:=ok_len (Ok.agg_at hk.1 3 rfl)
 have z3:lZ front_:=ok_len hk.2.1
 have z4:lZ middle_:=ok_len hk.2.2.1
 have z5:lZ ids_:=ok_len hk.2.2.2.1
 unfold R30_Made at h
 conv=>whnf
 obtain ⟨most64,hc,hk51⟩:=bind_some h
 clear h
 have h:=hc
 clear hc
 refine Cut.mk (mkSt [(1,.im (nL (cL cI) front_)),(2,.im (nL (cL cI) middle_)),(3,.im (nL (cL (cL cI)) ids_)),(4,.im (.ref (zab n_))),(10,.im (nI most64))] [] []) (lZ front_∧lZ middle_∧lZ ids_∧True) ((Holds.avl 1 rfl).and ((Holds.avl 2 rfl).and ((Holds.avl 3 rfl).and (hT)))) ?_ (fun hp=>?_)
 conv=>whnf
 refine Loops.iter (fun (s:Int×Nat)=>R30_Made.s2 ids_ s.1 s.2) (fun (most67,s68)=>mkSt [(1,.im (nL (cL cI) front_)),(2,.im (nL (cL cI) middle_)),(3,.im (nL (cL (cL cI)) ids_)),(4,.im (.ref (zab n_))),(10,.im (nI most67)),(11,.im (nI (↑s68:Int)))] [] []) (fun (most67,s68)=>lZ front_∧lZ middle_∧lZ ids_∧True) h (eA []) (by rintro ⟨most67,s68⟩;exact ((Holds.avl 1 rfl).and ((Holds.avl 2 rfl).and ((Holds.avl 3 rfl).and (hT))))) ?_
 clear h
 rintro k ⟨most67,s68⟩ o hp h ho71
 replace h:R30_Made.s2 ids_ most67 s68=some o:=h
 unfold R30_Made.s2 at h
 obtain ⟨z74,z75,z76,_⟩:=hp
 conv=>whnf
 refine Nf.mk (List.length ids_) len_map ?_
 conv=>whnf
 refine Both.mk ?_ ?_<;>intro b72
 obtain ⟨h,b72d⟩:=ctd b72 h
 conv=>whnf
 obtain ⟨e73,he73,h⟩:=zac h
 refine ⟨_,⟨(by omega),map_at he73,rfl⟩,?_⟩
 conv=>whnf
 refine Nf.mk (List.length e73) len_map ?_
 conv=>whnf
 refine Arith.mk (by show inR _;unfold inR;omega) ?_
 conv=>whnf
 cases h
 exact Nxt.mk _ ho71 (eA [])
 obtain ⟨h,b72d⟩:=cfd b72 h
 conv=>whnf
 cases h
 have ho71:_=_:=ho71
 cases ho71
 exact Join.mk (eA [])
 replace h:=hk51
 obtain ⟨z77,z78,z79,_⟩:=hp
 conv=>whnf
 refine Nf.mk (List.length front_) len_map ?_
 conv=>whnf
 refine Nf.mk (List.length middle_) len_map ?_
 conv=>whnf
 obtain ⟨c80,h⟩:=chk_some h
 refine Arith.mk c80 ?_
 conv=>whnf
 obtain ⟨c81,h⟩:=chk_some h
 refine Arith.mk c81 ?_
 conv=>whnf
 refine Both.mk ?_ ?_<;>intro b82
 obtain ⟨h,b82d⟩:=ctd b82 h
 conv=>whnf
 cases h
 conv=>whnf
 exact ⟨rfl,rfl⟩
 obtain ⟨h,b82d⟩:=cfd b82 h
 conv=>whnf
 obtain ⟨y1284,hc,hk83⟩:=bind_some h
 clear h
 have h:=hc
 clear hc
 refine Cut.mk (mkSt [(12,.osl 86 1)] [(86,.row 47 1 (List.map (cL cI) y1284))] []) (lZ y1284∧True) ((Holds.kdl 86 rfl).and (hT)) ?_ (fun hp=>?_)
 conv=>whnf
 refine Loops.iter (fun (s:List (List Int)×Nat)=>R30_Made.s88 n_ front_ middle_ ids_ s.1 s.2) (fun (y1680,i1681)=>mkSt [(1,.im (nL (cL cI) front_)),(2,.im (nL (cL cI) middle_)),(3,.im (nL (cL (cL cI)) ids_)),(4,.im (.ref (zab n_))),(12,.osl 86 1),(13,.im (nI (↑i1681:Int)))] [(86,.row 47 1 (List.map (cL cI) y1680))] []) (fun (y1680,i1681)=>lZ front_∧lZ middle_∧lZ ids_∧lZ y1680∧True) h (eA [(86,none)]) (by rintro ⟨y1680,i1681⟩;exact ((Holds.avl 1 rfl).and ((Holds.avl 2 rfl).and ((Holds.avl 3 rfl).and ((Holds.kdl 86 rfl).and (hT)))))) ?_
 clear h
 rintro k ⟨y1680,i1681⟩ o hp h ho2081
 replace h:R30_Made.s88 n_ front_ middle_ ids_ y1680 i1681=some o:=h
 unfold R30_Made.s88 at h
 obtain ⟨z2481,z2482,z2483,z2484,_⟩:=hp
 conv=>whnf
 refine Nf.mk (List.length front_) len_map ?_
 conv=>whnf
 refine Both.mk ?_ ?_<;>intro b2082
 obtain ⟨h,b2082d⟩:=ctd b2082 h
 conv=>whnf
 obtain ⟨y2280,hc,hk2083⟩:=bind_some h
 clear h
 have h:=hc
 clear hc
 refine Cut.mk (mkSt [(1,.im (nL (cL cI) front_)),(2,.im (nL (cL cI) middle_)),(3,.im (nL (cL (cL cI)) ids_)),(4,.im (.ref (zab n_))),(12,.osl 86 1),(13,.im (nI (↑i1681:Int)))] [(86,.row 47 1 (List.map (cL cI) y2280))] []) (lZ front_∧lZ middle_∧lZ ids_∧lZ y2280∧True) ((Holds.avl 1 rfl).and ((Holds.avl 2 rfl).and ((Holds.avl 3 rfl).and ((Holds.kdl 86 rfl).and (hT))))) ?_ (fun hp=>?_)
 conv=>whnf
 refine Loops.iter (fun (s:List (List Int)×Nat)=>R30_Made.s87 n_ front_ middle_ ids_ i1681 s.1 s.2) (fun (y2344,j2345)=>mkSt [(1,.im (nL (cL cI) front_)),(2,.im (nL (cL cI) middle_)),(3,.im (nL (cL (cL cI)) ids_)),(4,.im (.ref (zab n_))),(12,.osl 86 1),(13,.im (nI (↑i1681:Int))),(14,.im (nI (↑j2345:Int)))] [(86,.row 47 1 (List.map (cL cI) y2344))] []) (fun (y2344,j2345)=>lZ front_∧lZ middle_∧lZ ids_∧lZ y2344∧True) h (eA [(86,some 86)]) (by rintro ⟨y2344,j2345⟩;exact ((Holds.avl 1 rfl).and ((Holds.avl 2 rfl).and ((Holds.avl 3 rfl).and ((Holds.kdl 86 rfl).and (hT)))))) ?_
 clear h
 rintro k ⟨y2344,j2345⟩ o hp h ho2409
 replace h:R30_Made.s87 n_ front_ middle_ ids_ i1681 y2344 j2345=some o:=h
 unfold R30_Made.s87 at h
 obtain ⟨z2473,z2474,z2475,z2476,_⟩:=hp
 conv=>whnf
 refine Nf.mk (List.length middle_) len_map ?_
 conv=>whnf
 refine Both.mk ?_ ?_<;>intro b2410
 obtain ⟨h,b2410d⟩:=ctd b2410 h
 conv=>whnf
 obtain ⟨e2411,he2411,h⟩:=zac h
 refine ⟨_,⟨(by omega),map_at he2411,rfl⟩,?_⟩
 conv=>whnf
 obtain ⟨e2412,he2412,h⟩:=zac h
 refine ⟨_,⟨(by omega),map_at he2412,rfl⟩,?_⟩
 conv=>whnf
 obtain ⟨c2413,hc2413,h⟩:=bind_some h
 refine ⟨_,(zh1 e2411 e2412 [] c2413 (fun _ _ _=>hc2413)).im,?_⟩
 conv=>whnf
 obtain ⟨c2414,hc2414,h⟩:=bind_some h
 refine ⟨_,(sp_R30_tails n_ ids_ c2413 c2414 (fun _ _ _=>hc2414)),?_⟩
 conv=>whnf
 obtain ⟨y2442,hc,hk2415⟩:=bind_some h
 clear h
 have h:=hc
 clear hc
 refine Cut.mk (mkSt [(1,.im (nL (cL cI) front_)),(2,.im (nL (cL cI) middle_)),(3,.im (nL (cL (cL cI)) ids_)),(4,.im (.ref (zab n_))),(12,.osl 86 1),(13,.im (nI (↑i1681:Int))),(14,.im (nI (↑j2345:Int)))] [(86,.row 47 1 (List.map (cL cI) y2442))] []) (lZ front_∧lZ middle_∧lZ ids_∧lZ y2442∧True) ((Holds.avl 1 rfl).and ((Holds.avl 2 rfl).and ((Holds.avl 3 rfl).and ((Holds.kdl 86 rfl).and (hT))))) ?_ (fun hp=>?_)
 conv=>whnf
 refine Loops.iter (fun (s:List (List Int)×Nat)=>R30_Made.s86 front_ middle_ i1681 j2345 c2414 s.1 s.2) (fun (y2449,k2450)=>mkSt [(1,.im (nL (cL cI) front_)),(2,.im (nL (cL cI) middle_)),(3,.im (nL (cL (cL cI)) ids_)),(4,.im (.ref (zab n_))),(12,.osl 86 1),(13,.im (nI (↑i1681:Int))),(14,.im (nI (↑j2345:Int))),(15,.im (nL (cL cI) c2414)),(16,.im (nI (↑k2450:Int)))] [(86,.row 47 1 (List.map (cL cI) y2449))] []) (fun (y2449,k2450)=>lZ front_∧lZ middle_∧lZ ids_∧lZ c2414∧lZ y2449∧True) h (eA [(86,some 86)]) (by rintro ⟨y2449,k2450⟩;exact ((Holds.avl 1 rfl).and ((Holds.avl 2 rfl).and ((Holds.avl 3 rfl).and ((Holds.avl 15 rfl).and ((Holds.kdl 86 rfl).and (hT))))))) ?_
 clear h
 rintro k ⟨y2449,k2450⟩ o hp h ho2457
 replace h:R30_Made.s86 front_ middle_ i1681 j2345 c2414 y2449 k2450=some o:=h
 unfold R30_Made.s86 at h
 obtain ⟨z2464,z2465,z2466,z2467,z2468,_⟩:=hp
 conv=>whnf
 refine Nf.mk (List.length c2414) len_map ?_
 conv=>whnf
 refine Both.mk ?_ ?_<;>intro b2458
 obtain ⟨h,b2458d⟩:=ctd b2458 h
 conv=>whnf
 obtain ⟨e2459,he2459,h⟩:=zac h
 refine ⟨_,⟨(by omega),map_at he2459,rfl⟩,?_⟩
 conv=>whnf
 obtain ⟨e2460,he2460,h⟩:=zac h
 refine ⟨_,⟨(by omega),map_at he2460,rfl⟩,?_⟩
 conv=>whnf
 obtain ⟨e2461,he2461,h⟩:=zac h
 refine ⟨_,⟨(by omega),map_at he2461,rfl⟩,?_⟩
 conv=>whnf
 obtain ⟨c2462,hc2462,h⟩:=bind_some h
 refine ⟨_,(zh1 e2459 e2460 e2461 c2462 (fun _ _ _=>hc2462)).im,?_⟩
 conv=>whnf
 obtain ⟨c2463,h⟩:=chk_some h
 refine Side.mk ⟨rfl,map_len (l:=[c2462]) (c:=cL cI) fun _=>rfl,show capOk _ 24 by simpa only [List.length_map,List.length_cons,List.length_nil,Nat.zero_add] using c2463⟩ ?_
 conv=>whnf
 refine Nf.mk (List.map (cL cI) (y2449++[c2462])) (app_map (l:=y2449) (m:=[c2462]) (c:=cL cI)) ?_
 conv=>whnf
 refine Arith.mk (by show inR _;unfold inR;omega) ?_
 conv=>whnf
 cases h
 exact Nxt.mk _ ho2457 (eA [(86,some 86)])
 obtain ⟨h,b2458d⟩:=cfd b2458 h
 conv=>whnf
 cases h
 have ho2457:_=_:=ho2457
 cases ho2457
 exact Join.mk (eA [(86,some 86)])
 replace h:=hk2415
 obtain ⟨z2469,z2470,z2471,z2472,_⟩:=hp
 conv=>whnf
 refine Arith.mk (by show inR _;unfold inR;omega) ?_
 conv=>whnf
 cases h
 exact Nxt.mk _ ho2409 (eA [(86,some 86)])
 obtain ⟨h,b2410d⟩:=cfd b2410 h
 conv=>whnf
 cases h
 have ho2409:_=_:=ho2409
 cases ho2409
 exact Join.mk (eA [(86,some 86)])
 replace h:=hk2083
 obtain ⟨z2477,z2478,z2479,z2480,_⟩:=hp
 conv=>whnf
 refine Arith.mk (by show inR _;unfold inR;omega) ?_
 conv=>whnf
 cases h
 exact Nxt.mk _ ho2081 (eA [(86,some 86)])
 obtain ⟨h,b2082d⟩:=cfd b2082 h
 conv=>whnf
 cases h
 have ho2081:_=_:=ho2081
 cases ho2081
 exact Join.mk (eA [(86,some 86)])
 replace h:=hk83
 obtain ⟨z2485,_⟩:=hp
 conv=>whnf
 refine Side.mk ⟨rfl,trivial⟩ ?_
 conv=>whnf
 obtain ⟨c2486,hc2486,h⟩:=bind_some h
 refine ⟨_,(zk7 y1284 c2486 (fun _=>hc2486)).im,?_⟩
 conv=>whnf
 cases h
 conv=>whnf
 exact ⟨rfl,rfl⟩
theorem sp_R08_finer (m_:zaa) (class_:List Int) (r:List Int) (h:Ok (.agg (zab m_))→Ok (nL cI class_)→za3 m_ class_=some r):Sp Tryz.prog 98 [.im (.agg (zab m_)),.im (nL cI class_)] (.row 3 1 (List.map cI r)):=by
 refine sp_of rfl [700002] rfl rfl rfl (Nat.le_of_ble_eq_true rfl) rfl fun hk=>?_
 replace h:=h hk.1 hk.2.1
 have z1:lZ m_.Next:=ok_len (Ok.agg_at hk.1 2 rfl)
 have z2:lZ m_.Out:=ok_len (Ok.agg_at hk.1 3 rfl)
 have z3:lZ class_:=ok_len hk.2.1
 unfold za3 at h
 conv=>whnf
 obtain ⟨y2630,hc,hk51⟩:=bind_some h
 clear h
 have h:=hc
 clear hc
 refine Cut.mk (mkSt [(5,.osl 99 1)] [(99,.row 3 1 (List.map cI y2630))] []) (lZ y2630∧True) ((Holds.kdl 99 rfl).and (hT)) ?_ (fun hp=>?_)
 conv=>whnf
 refine Loops.iter (fun (s:List Int×Nat×Nat)=>za3.s92 m_ class_ s.1 s.2.1 s.2.2) (fun (y3443,count3444,s3445)=>mkSt [(1,.im (nL cI class_)),(2,.im (.ref (zab m_))),(5,.osl 99 1),(6,.im (nI (↑count3444:Int))),(7,.im (nI (↑s3445:Int)))] [(99,.row 3 1 (List.map cI y3443))] []) (fun (y3443,count3444,s3445)=>lZ class_∧lZ y3443∧True) h (eA [(99,none)]) (by rintro ⟨y3443,count3444,s3445⟩;exact ((Holds.avl 1 rfl).and ((Holds.kdl 99 rfl).and (hT)))) ?_
 clear h
 rintro k ⟨y3443,count3444,s3445⟩ o hp h ho4326
 replace h:za3.s92 m_ class_ y3443 count3444 s3445=some o:=h
 unfold za3.s92 at h
 obtain ⟨z5207,z5208,_⟩:=hp
 conv=>whnf
 refine Nf.mk (List.length class_) len_map ?_
 conv=>whnf
 refine Both.mk ?_ ?_<;>intro b4327
 obtain ⟨h,b4327d⟩:=ctd b4327 h
 conv=>whnf
 refine Arith.mk (by show inR _;unfold inR;omega) ?_
 conv=>whnf
 obtain ⟨found4761,hc,hk4328⟩:=bind_some h
 clear h
 have h:=hc
 clear hc
 refine Cut.mk (mkSt [(1,.im (nL cI class_)),(2,.im (.ref (zab m_))),(5,.osl 99 1),(6,.im (nI (↑count3444:Int))),(7,.im (nI (↑s3445:Int))),(8,.im (nI found4761))] [(99,.row 3 1 (List.map cI y3443))] []) (lZ class_∧lZ y3443∧True) ((Holds.avl 1 rfl).and ((Holds.kdl 99 rfl).and (hT))) ?_ (fun hp=>?_)
 conv=>whnf
 refine Loops.iter (fun (s:Int×Int)=>za3.s90 m_ class_ y3443 s3445 s.1 s.2) (fun (found4903,t4904)=>mkSt [(1,.im (nL cI class_)),(2,.im (.ref (zab m_))),(5,.osl 99 1),(6,.im (nI (↑count3444:Int))),(7,.im (nI (↑s3445:Int))),(8,.im (nI found4903)),(9,.im (nI t4904))] [(99,.row 3 1 (List.map cI y3443))] []) (fun (found4903,t4904)=>lZ class_∧lZ y3443∧True) h (eA [(99,some 99)]) (by rintro ⟨found4903,t4904⟩;exact ((Holds.avl 1 rfl).and ((Holds.kdl 99 rfl).and (hT)))) ?_
 clear h
 rintro k ⟨found4903,t4904⟩ o hp h ho5048
 replace h:za3.s90 m_ class_ y3443 s3445 found4903 t4904=some o:=h
 unfold za3.s90 at h
 obtain ⟨z5192,z5193,_⟩:=hp
 conv=>whnf
 refine Both.mk ?_ ?_<;>intro b5049
 obtain ⟨h,b5049d⟩:=ctd b5049 h
 conv=>whnf
 obtain ⟨e5050,he5050,h⟩:=zac h
 refine ⟨_,⟨(by omega),map_at he5050,rfl⟩,?_⟩
 conv=>whnf
 obtain ⟨e5051,he5051z,he5051,h⟩:=idx_some h
 refine ⟨_,⟨he5051z,map_at he5051,rfl⟩,?_⟩
 conv=>whnf
 obtain ⟨same5119,hc,hk5052⟩:=bind_some h
 clear h
 have h:=hc
 clear hc
 refine Cut.mk (mkSt [(1,.im (nL cI class_)),(2,.im (.ref (zab m_))),(5,.osl 99 1),(6,.im (nI (↑count3444:Int))),(7,.im (nI (↑s3445:Int))),(8,.im (nI found4903)),(9,.im (nI t4904)),(10,.im (nB same5119))] [(99,.row 3 1 (List.map cI y3443))] []) (lZ class_∧lZ y3443∧True) ((Holds.avl 1 rfl).and ((Holds.kdl 99 rfl).and (hT))) ?_ (fun hp=>?_)
 conv=>whnf
 refine Loops.iter (fun (s:Bool×Nat)=>za3.s89 m_ class_ s3445 t4904 s.1 s.2) (fun (same5139,a5140)=>mkSt [(1,.im (nL cI class_)),(2,.im (.ref (zab m_))),(5,.osl 99 1),(6,.im (nI (↑count3444:Int))),(7,.im (nI (↑s3445:Int))),(8,.im (nI found4903)),(9,.im (nI t4904)),(10,.im (nB same5139)),(11,.im (nI (↑a5140:Int)))] [(99,.row 3 1 (List.map cI y3443))] []) (fun (same5139,a5140)=>lZ class_∧lZ y3443∧True) h (eA [(99,some 99)]) (by rintro ⟨same5139,a5140⟩;exact ((Holds.avl 1 rfl).and ((Holds.kdl 99 rfl).and (hT)))) ?_
 clear h
 rintro k ⟨same5139,a5140⟩ o hp h ho5162
 replace h:za3.s89 m_ class_ s3445 t4904 same5139 a5140=some o:=h
 unfold za3.s89 at h
 obtain ⟨z5184,z5185,_⟩:=hp
 conv=>whnf
 obtain ⟨y5166,hc,hk5164⟩:=bind_some h
 clear h
 have h:=hc
 clear hc
 refine Cut.mk (mkSt [(1,.im (nL cI class_)),(2,.im (.ref (zab m_))),(5,.osl 99 1),(6,.im (nI (↑count3444:Int))),(7,.im (nI (↑s3445:Int))),(8,.im (nI found4903)),(9,.im (nI t4904)),(10,.im (nB same5139)),(11,.im (nI (↑a5140:Int))),(39,.im (nB y5166))] [(99,.row 3 1 (List.map cI y3443))] []) (lZ class_∧lZ y3443∧True) ((Holds.avl 1 rfl).and ((Holds.kdl 99 rfl).and (hT))) ?_ (fun hp=>?_)
 conv=>whnf
 refine Both.mk ?_ ?_<;>intro b5167
 replace b5167:=beq_tt b5167
 obtain ⟨h,b5167d⟩:=ctd b5167 h
 conv=>whnf
 refine Both.yes b5167 ?_
 conv=>whnf
 cases h
 exact Join.mk (eA [(99,some 99)])
 replace b5167:=beq_tf b5167
 obtain ⟨h,b5167d⟩:=cfd b5167 h
 conv=>whnf
 refine Both.no b5167 ?_
 conv=>whnf
 cases h
 exact Join.mk (eA [(99,some 99)])
 replace h:=hk5164
 obtain ⟨z5168,z5169,_⟩:=hp
 conv=>whnf
 refine Both.mk ?_ ?_<;>intro b5170
 replace h:=cond_t b5170 h
 conv=>whnf
 obtain ⟨e5171,he5171,h⟩:=zac h
 refine ⟨_,⟨(by omega),map_at he5171,rfl⟩,?_⟩
 conv=>whnf
 obtain ⟨e5172,he5172,h⟩:=zac h
 refine ⟨_,⟨(by omega),map_at he5172,rfl⟩,?_⟩
 conv=>whnf
 obtain ⟨e5173,he5173z,he5173,h⟩:=idx_some h
 refine ⟨_,⟨he5173z,map_at he5173,rfl⟩,?_⟩
 conv=>whnf
 obtain ⟨e5174,he5174,h⟩:=zac h
 refine ⟨_,⟨(by omega),map_at he5174,rfl⟩,?_⟩
 conv=>whnf
 refine Both.mk ?_ ?_<;>intro b5175
 replace b5175:=beq_tt b5175
 obtain ⟨h,b5175d⟩:=ctd b5175 h
 conv=>whnf
 iterate 4 (refine Both.yes (tt_beq b5175) ?_;(conv=>whnf))
 obtain ⟨e5176,he5176,h⟩:=zac h
 refine ⟨_,⟨(by omega),map_at he5176,rfl⟩,?_⟩
 conv=>whnf
 iterate 3 (refine Both.yes (tt_beq b5175) ?_;(conv=>whnf))
 obtain ⟨e5177,he5177,h⟩:=zac h
 refine ⟨_,⟨(by omega),map_at he5177,rfl⟩,?_⟩
 conv=>whnf
 iterate 2 (refine Both.yes (tt_beq b5175) ?_;(conv=>whnf))
 obtain ⟨e5178,he5178z,he5178,h⟩:=idx_some h
 refine ⟨_,⟨he5178z,map_at he5178,rfl⟩,?_⟩
 conv=>whnf
 iterate 6 (refine Both.yes (tt_beq b5175) ?_;(conv=>whnf))
 obtain ⟨e5179,he5179z,he5179,h⟩:=idx_some h
 refine ⟨_,⟨he5179z,map_at he5179,rfl⟩,?_⟩
 conv=>whnf
 iterate 3 (refine Both.yes (tt_beq b5175) ?_;(conv=>whnf))
 obtain ⟨e5180,he5180,h⟩:=zac h
 refine ⟨_,⟨(by omega),map_at he5180,rfl⟩,?_⟩
 conv=>whnf
 iterate 2 (refine Both.yes (tt_beq b5175) ?_;(conv=>whnf))
 obtain ⟨e5181,he5181z,he5181,h⟩:=idx_some h
 refine ⟨_,⟨he5181z,map_at he5181,rfl⟩,?_⟩
 conv=>whnf
 iterate 2 (refine Both.yes (tt_beq b5175) ?_;(conv=>whnf))
 refine Both.yes b5175 ?_
 conv=>whnf
 obtain ⟨c5182,h⟩:=chk_some h
 refine Arith.mk c5182 ?_
 conv=>whnf
 cases h
 exact Nxt.mk _ ho5162 (eA [(99,some 99)])
 replace b5175:=beq_tf b5175
 obtain ⟨h,b5175d⟩:=cfd b5175 h
 conv=>whnf
 iterate 22 (refine Both.no (ft_beq b5175) ?_;(conv=>whnf))
 refine Both.no b5175 ?_
 conv=>whnf
 obtain ⟨c5183,h⟩:=chk_some h
 refine Arith.mk c5183 ?_
 conv=>whnf
 cases h
 exact Nxt.mk _ ho5162 (eA [(99,some 99)])
 replace h:=cond_f b5170 h
 conv=>whnf
 cases h
 have ho5162:_=_:=ho5162
 cases ho5162
 exact Join.mk (eA [(99,some 99)])
 replace h:=hk5052
 obtain ⟨z5186,z5187,_⟩:=hp
 conv=>whnf
 refine Both.mk ?_ ?_<;>intro b5188
 replace h:=cond_t b5188 h
 conv=>whnf
 obtain ⟨e5189,he5189z,he5189,h⟩:=idx_some h
 refine Side.mk ⟨he5189z,rfl,map_lt he5189⟩ ?_
 conv=>whnf
 refine ⟨_,_,⟨rfl,map_at he5189,rfl,rfl⟩,?_⟩
 conv=>whnf
 obtain ⟨c5190,h⟩:=chk_some h
 refine Arith.mk c5190 ?_
 conv=>whnf
 cases h
 exact Nxt.mk _ ho5048 (eA [(99,some 99)])
 replace h:=cond_f b5188 h
 conv=>whnf
 obtain ⟨c5191,h⟩:=chk_some h
 refine Arith.mk c5191 ?_
 conv=>whnf
 cases h
 exact Nxt.mk _ ho5048 (eA [(99,some 99)])
 obtain ⟨h,b5049d⟩:=cfd b5049 h
 conv=>whnf
 cases h
 have ho5048:_=_:=ho5048
 cases ho5048
 exact Join.mk (eA [(99,some 99)])
 replace h:=hk4328
 obtain ⟨z5194,z5195,_⟩:=hp
 conv=>whnf
 obtain ⟨⟨count5200,found5201⟩,hc,hk5197⟩:=bind_some h
 clear h
 have h:=hc
 clear hc
 refine Cut.mk (mkSt [(1,.im (nL cI class_)),(2,.im (.ref (zab m_))),(5,.osl 99 1),(6,.im (nI (↑count5200:Int))),(7,.im (nI (↑s3445:Int))),(8,.im (nI found5201))] [(99,.row 3 1 (List.map cI y3443))] []) (lZ class_∧lZ y3443∧True) ((Holds.avl 1 rfl).and ((Holds.kdl 99 rfl).and (hT))) ?_ (fun hp=>?_)
 conv=>whnf
 refine Both.mk ?_ ?_<;>intro b5202
 obtain ⟨h,b5202d⟩:=ctd b5202 h
 conv=>whnf
 obtain ⟨c5203,h⟩:=chk_some h
 refine Arith.mk c5203 ?_
 conv=>whnf
 cases h
 exact Join.mk (eA [(99,some 99)])
 obtain ⟨h,b5202d⟩:=cfd b5202 h
 conv=>whnf
 cases h
 exact Join.mk (eA [(99,some 99)])
 replace h:za3.k91 y3443 s3445 count5200 found5201=some _:=hk5197
 unfold za3.k91 at h
 obtain ⟨z5204,z5205,_⟩:=hp
 conv=>whnf
 obtain ⟨c5206,h⟩:=chk_some h
 refine Side.mk ⟨rfl,map_len (l:=[found5201]) (c:=cI) fun _=>rfl,show capOk _ 8 by simpa only [List.length_map,List.length_cons,List.length_nil,Nat.zero_add] using c5206⟩ ?_
 conv=>whnf
 refine Nf.mk (List.map cI (y3443++[found5201])) (app_map (l:=y3443) (m:=[found5201]) (c:=cI)) ?_
 conv=>whnf
 refine Arith.mk (by show inR _;unfold inR;omega) ?_
 conv=>whnf
 cases h
 exact Nxt.mk _ ho4326 (eA [(99,some 99)])
 obtain ⟨h,b4327d⟩:=cfd b4327 h
 conv=>whnf
 cases h
 have ho4326:_=_:=ho4326
 cases ho4326
 exact Join.mk (eA [(99,some 99)])
 replace h:=hk51
 obtain ⟨z5209,_⟩:=hp
 conv=>whnf
 cases h
 conv=>whnf
 exact Side.mk ⟨rfl,trivial⟩ ⟨rfl,rfl⟩
theorem zi1 (m_:zaa) (k_:Int) (r:List Int×Int) (h:Ok (.agg (zab m_))→Ok (nI k_)→zbp m_ k_=some r):Sp Tryz.prog 73 [.im (.agg (zab m_)),.im (nI k_)] (.tup [nL cI r.1,nI r.2]):=by
 refine sp_of rfl [700002,6000017] rfl rfl rfl (Nat.le_of_ble_eq_true rfl) rfl fun hk=>?_
 replace h:=h hk.1 hk.2.1
 have z1:lZ m_.Next:=ok_len (Ok.agg_at hk.1 2 rfl)
 have z2:lZ m_.Out:=ok_len (Ok.agg_at hk.1 3 rfl)
 unfold zbp at h
 conv=>whnf
 obtain ⟨c51,hc51,h⟩:=bind_some h
 refine ⟨_,(zda m_ c51 (fun _=>hc51)),?_⟩
 conv=>whnf
 refine Both.mk ?_ ?_<;>intro b52
 obtain ⟨h,b52d⟩:=ctd b52 h
 conv=>whnf
 cases h
 conv=>whnf
 exact ⟨rfl,rfl⟩
 obtain ⟨h,b52d⟩:=cfd b52 h
 conv=>whnf
 refine Nf.mk (List.length m_.Next) len_map ?_
 conv=>whnf
 obtain ⟨c53,h⟩:=chk_some h
 refine Side.mk c53 ?_
 conv=>whnf
 refine Nf.mk (List.map cI (List.replicate (List.length m_.Next) 0)) (rep_map (c:=cI) (z:=0) (n:=(List.length m_.Next)) rfl rfl) ?_
 conv=>whnf
 obtain ⟨class85,hc,hk54⟩:=bind_some h
 clear h
 have h:=hc
 clear hc
 refine Cut.mk (mkSt [(7,.im (nL cI class85))] [] []) (lZ class85∧True) ((Holds.avl 7 rfl).and (hT)) ?_ (fun hp=>?_)
 conv=>whnf
 refine Loops.iter (fun (s:List Int×Nat)=>zbp.s2 m_ k_ s.1 s.2) (fun (class94,i95)=>mkSt [(1,.im (nI k_)),(2,.im (.ref (zab m_))),(7,.im (nL cI class94)),(8,.im (nI (↑i95:Int)))] [] []) (fun (class94,i95)=>lZ class94∧True) h (eA []) (by rintro ⟨class94,i95⟩;exact ((Holds.avl 7 rfl).and (hT))) ?_
 clear h
 rintro k ⟨class94,i95⟩ o hp h ho105
 replace h:zbp.s2 m_ k_ class94 i95=some o:=h
 unfold zbp.s2 at h
 obtain ⟨z115,_⟩:=hp
 conv=>whnf
 obtain ⟨y109,hc,hk107⟩:=bind_some h
 clear h
 have h:=hc
 clear hc
 refine Cut.mk (mkSt [(1,.im (nI k_)),(2,.im (.ref (zab m_))),(7,.im (nL cI class94)),(8,.im (nI (↑i95:Int))),(27,.im (nB y109))] [] []) (lZ class94∧True) ((Holds.avl 7 rfl).and (hT)) ?_ (fun hp=>?_)
 conv=>whnf
 refine Both.mk ?_ ?_<;>intro b110
 replace b110:=beq_tt b110
 obtain ⟨h,b110d⟩:=ctd b110 h
 conv=>whnf
 iterate 3 (refine Both.yes (tt_beq b110) ?_;(conv=>whnf))
 refine Nf.mk (List.length m_.Next) len_map ?_
 conv=>whnf
 refine Both.yes (tt_beq b110) ?_
 conv=>whnf
 refine Both.yes b110 ?_
 conv=>whnf
 cases h
 exact Join.mk (eA [])
 replace b110:=beq_tf b110
 obtain ⟨h,b110d⟩:=cfd b110 h
 conv=>whnf
 iterate 4 (refine Both.no (ft_beq b110) ?_;(conv=>whnf))
 refine Both.no b110 ?_
 conv=>whnf
 cases h
 exact Join.mk (eA [])
 replace h:=hk107
 obtain ⟨z111,_⟩:=hp
 conv=>whnf
 refine Both.mk ?_ ?_<;>intro b112
 replace h:=cond_t b112 h
 conv=>whnf
 obtain ⟨c113,hc113,h⟩:=bind_some h
 refine ⟨_,(sp_R08_finer m_ class94 c113 (fun _ _=>hc113)).im,?_⟩
 conv=>whnf
 obtain ⟨c114,h⟩:=chk_some h
 refine Arith.mk c114 ?_
 conv=>whnf
 cases h
 exact Nxt.mk _ ho105 (eA [])
 replace h:=cond_f b112 h
 conv=>whnf
 cases h
 have ho105:_=_:=ho105
 cases ho105
 exact Join.mk (eA [])
 replace h:=hk54
 obtain ⟨z116,_⟩:=hp
 conv=>whnf
 cases h
 conv=>whnf
 exact ⟨rfl,rfl⟩
theorem zk8 (m_:zaa) (r:List Int×Int) (h:Ok (.agg (zab m_))→zdk m_=some r):Sp Tryz.prog 42 [.im (.agg (zab m_))] (.tup [nL cI r.1,nI r.2]):=by
 refine sp_of rfl [700001] rfl rfl rfl (Nat.le_of_ble_eq_true rfl) rfl fun hk=>?_
 replace h:=h hk.1
 have z1:lZ m_.Next:=ok_len (Ok.agg_at hk.1 2 rfl)
 have z2:lZ m_.Out:=ok_len (Ok.agg_at hk.1 3 rfl)
 unfold zdk at h
 conv=>whnf
 refine Nf.mk (List.length m_.Next) len_map ?_
 conv=>whnf
 obtain ⟨c51,hc51,h⟩:=bind_some h
 refine ⟨_,(zi1 m_ (↑(List.length m_.Next):Int) c51 (fun _ _=>hc51)),?_⟩
 conv=>whnf
 cases h
 conv=>whnf
 exact ⟨rfl,rfl⟩
theorem zh7 (m_:zaa) (r:zaa×Int) (h:Ok (.agg (zab m_))→R08_Min m_=some r):Sp Tryz.prog 19 [.im (.agg (zab m_))] (.tup [.agg (zab r.1),nI r.2]):=by
 refine sp_of rfl [26,700001] rfl rfl rfl (Nat.le_of_ble_eq_true rfl) rfl fun hk=>?_
 replace h:=h hk.1
 have z1:lZ m_.Next:=ok_len (Ok.agg_at hk.1 2 rfl)
 have z2:lZ m_.Out:=ok_len (Ok.agg_at hk.1 3 rfl)
 unfold R08_Min at h
 conv=>whnf
 obtain ⟨c51,hc51,h⟩:=bind_some h
 refine ⟨_,(zk8 m_ c51 (fun _=>hc51)),?_⟩
 conv=>whnf
 refine Both.mk ?_ ?_<;>intro b52
 obtain ⟨h,b52d⟩:=ctd b52 h
 conv=>whnf
 refine Side.mk rfl ?_
 conv=>whnf
 cases h
 conv=>whnf
 refine Side.mk ⟨rfl,trivial⟩ ?_
 conv=>whnf
 exact ⟨rfl,rfl⟩
 obtain ⟨h,b52d⟩:=cfd b52 h
 conv=>whnf
 refine Nf.mk (List.length m_.Next) len_map ?_
 conv=>whnf
 obtain ⟨c53,h⟩:=chk_some h
 refine Side.mk c53 ?_
 conv=>whnf
 refine Nf.mk (List.map cI (List.replicate (List.length m_.Next) 0)) (rep_map (c:=cI) (z:=0) (n:=(List.length m_.Next)) rfl rfl) ?_
 conv=>whnf
 obtain ⟨y67,hc,hk54⟩:=bind_some h
 clear h
 have h:=hc
 clear hc
 refine Cut.mk (mkSt [(1,.im (.ref (zab m_))),(2,.own 130 1 0),(4,.im (nL cI c51.1)),(6,.osl 131 1),(7,.osl 132 1)] [(130,.box 24 4),(131,.row 3 1 (List.map cI [m_.Start])),(132,.row 3 1 (List.map cI y67))] [(130,0,.im (nI 0)),(130,1,.im (nI 0)),(130,2,.im (.val (.slice none 0 0))),(130,3,.im (.val (.slice none 0 0)))]) (lZ c51.1∧List.length [m_.Start]≤17592186044416∧lZ y67∧True) ((Holds.avl 4 rfl).and ((Holds.kdl 131 rfl).and ((Holds.kdl 132 rfl).and (hT)))) ?_ (fun hp=>?_)
 conv=>whnf
 refine Loops.iter (fun (s:List Int×Nat)=>R08_Min.s2 s.1 s.2) (fun (y70,i71)=>mkSt [(1,.im (.ref (zab m_))),(2,.own 130 1 0),(4,.im (nL cI c51.1)),(6,.osl 131 1),(7,.osl 132 1),(8,.im (nI (↑i71:Int)))] [(130,.box 24 4),(131,.row 3 1 (List.map cI [m_.Start])),(132,.row 3 1 (List.map cI y70))] [(130,0,.im (nI 0)),(130,1,.im (nI 0)),(130,2,.im (.val (.slice none 0 0))),(130,3,.im (.val (.slice none 0 0)))]) (fun (y70,i71)=>lZ c51.1∧List.length [m_.Start]≤17592186044416∧lZ y70∧True) h (eA [(130,some 2),(131,some 26),(132,some 30)]) (by rintro ⟨y70,i71⟩;exact ((Holds.avl 4 rfl).and ((Holds.kdl 131 rfl).and ((Holds.kdl 132 rfl).and (hT))))) ?_
 clear h
 rintro k ⟨y70,i71⟩ o hp h ho74
 replace h:R08_Min.s2 y70 i71=some o:=h
 unfold R08_Min.s2 at h
 obtain ⟨z77,z78,z79,_⟩:=hp
 conv=>whnf
 refine Side.mk rfl ?_
 conv=>whnf
 refine Nf.mk (List.length y70) len_map ?_
 conv=>whnf
 refine Both.mk ?_ ?_<;>intro b75
 obtain ⟨h,b75d⟩:=ctd b75 h
 conv=>whnf
 obtain ⟨e76,he76,h⟩:=zac h
 refine Side.mk ⟨(by omega),rfl,map_lt he76⟩ ?_
 conv=>whnf
 refine Side.mk ⟨rfl,trivial⟩ ?_
 conv=>whnf
 refine ⟨_,map_at he76,?_⟩
 conv=>whnf
 refine Nf.mk (List.map cI (List.set y70 i71 (-1:Int))) (set_map rfl) ?_
 conv=>whnf
 refine Arith.mk (by show inR _;unfold inR;omega) ?_
 conv=>whnf
 cases h
 exact Nxt.mk _ ho74 (eA [(130,some 130),(131,some 131),(132,some 132)])
 obtain ⟨h,b75d⟩:=cfd b75 h
 conv=>whnf
 cases h
 have ho74:_=_:=ho74
 cases ho74
 exact Join.mk (eA [(130,some 130),(131,some 131),(132,some 132)])
 replace h:=hk54
 obtain ⟨z80,z81,z82,_⟩:=hp
 conv=>whnf
 obtain ⟨e83,he83z,he83,h⟩:=idx_some h
 refine ⟨_,⟨he83z,map_at he83,rfl⟩,?_⟩
 conv=>whnf
 obtain ⟨e84,he84z,he84,h⟩:=idx_some h
 refine Side.mk ⟨he84z,rfl,map_lt he84⟩ ?_
 conv=>whnf
 refine Side.mk ⟨rfl,trivial⟩ ?_
 conv=>whnf
 refine ⟨_,map_at he84,?_⟩
 conv=>whnf
 refine Nf.mk (List.map cI (List.set y67 e83.toNat 0)) (set_map rfl) ?_
 conv=>whnf
 refine Side.mk rfl ?_
 conv=>whnf
 obtain ⟨⟨y800,y801⟩,hc,hk85⟩:=bind_some h
 clear h
 have h:=hc
 clear hc
 refine Cut.mk (mkSt [(2,.own 130 1 0),(9,.own 131 1 0)] [(130,.box 24 4),(131,.box 24 4),(132,.row 47 1 (List.map (cL cI) y800)),(133,.row 47 1 (List.map (cL cI) y801))] [(130,0,.im (nI 0)),(130,1,.im (nI 0)),(130,2,.im (.val (.slice none 0 0))),(130,3,.im (.val (.slice none 0 0))),(131,0,.im (nI m_.Inputs)),(131,1,.im (nI 0)),(131,2,.osl 132 1),(131,3,.osl 133 1)]) (lZ y800∧lZ y801∧True) ((Holds.kdl 132 rfl).and ((Holds.kdl 133 rfl).and (hT))) ?_ (fun hp=>?_)
 conv=>whnf
 refine Loops.iter (fun (s:List Int×List Int×List (List Int)×List (List Int)×Nat)=>R08_Min.s58 m_ c51 s.1 s.2.1 s.2.2.1 s.2.2.2.1 s.2.2.2.2) (fun (y1023,y1024,y1025,y1026,i1027)=>mkSt [(1,.im (.ref (zab m_))),(2,.own 130 1 0),(4,.im (nL cI c51.1)),(6,.osl 131 1),(7,.osl 132 1),(9,.own 133 1 0),(10,.im (nI (↑i1027:Int)))] [(130,.box 24 4),(131,.row 3 1 (List.map cI y1023)),(132,.row 3 1 (List.map cI y1024)),(133,.box 24 4),(134,.row 47 1 (List.map (cL cI) y1025)),(135,.row 47 1 (List.map (cL cI) y1026))] [(130,0,.im (nI 0)),(130,1,.im (nI 0)),(130,2,.im (.val (.slice none 0 0))),(130,3,.im (.val (.slice none 0 0))),(133,0,.im (nI m_.Inputs)),(133,1,.im (nI 0)),(133,2,.osl 134 1),(133,3,.osl 135 1)]) (fun (y1023,y1024,y1025,y1026,i1027)=>lZ c51.1∧lZ y1023∧lZ y1024∧lZ y1025∧lZ y1026∧True) h (Ent.mk [(130,some 130),(131,some 131),(132,some 132),(133,some 9),(134,none),(135,none)] rfl ⟨eI rfl rfl,⟨.own 130 _ 0,rfl,.own rfl rfl rfl⟩,eI rfl rfl,⟨.osl 131 _,rfl,.osl rfl rfl rfl⟩,⟨.osl 132 _,rfl,.osl rfl rfl rfl⟩,⟨.own 9 _ 0,rfl,.own rfl rfl rfl⟩,eI rfl rfl,trivial⟩ ⟨.inl ⟨130,rfl,rfl,trivial⟩,.inl ⟨131,rfl,rfl,trivial⟩,.inl ⟨132,rfl,rfl,trivial⟩,.inl ⟨9,rfl,rfl,trivial⟩,.inr ⟨rfl,rfl,.inl ⟨_,_,rfl,by decide⟩⟩,.inr ⟨rfl,rfl,.inl ⟨_,_,rfl,by decide⟩⟩,trivial⟩ ⟨⟨130,.im _,rfl,rfl,.im (Sub.rfl' rfl)⟩,⟨130,.im _,rfl,rfl,.im (Sub.rfl' rfl)⟩,⟨130,.im (.val (.slice none 0 0)),rfl,rfl,.im (Sub.rfl' rfl)⟩,⟨130,.im (.val (.slice none 0 0)),rfl,rfl,.im (Sub.rfl' rfl)⟩,⟨9,.im _,rfl,rfl,.im (Sub.rfl' rfl)⟩,⟨9,.im _,rfl,rfl,.im (Sub.rfl' rfl)⟩,⟨9,.im (.val (.slice none 0 0)),rfl,rfl,.made rfl rfl⟩,⟨9,.im (.val (.slice none 0 0)),rfl,rfl,.made rfl rfl⟩,trivial⟩) (by rintro ⟨y1023,y1024,y1025,y1026,i1027⟩;exact ((Holds.avl 4 rfl).and ((Holds.kdl 131 rfl).and ((Holds.kdl 132 rfl).and ((Holds.kdl 134 rfl).and ((Holds.kdl 135 rfl).and (hT))))))) ?_
 clear h
 rintro k ⟨y1023,y1024,y1025,y1026,i1027⟩ o hp h ho1269
 replace h:R08_Min.s58 m_ c51 y1023 y1024 y1025 y1026 i1027=some o:=h
 unfold R08_Min.s58 at h
 obtain ⟨z1511,z1512,z1513,z1514,z1515,_⟩:=hp
 conv=>whnf
 refine Side.mk rfl ?_
 conv=>whnf
 refine Nf.mk (List.length y1023) len_map ?_
 conv=>whnf
 refine Both.mk ?_ ?_<;>intro b1270
 obtain ⟨h,b1270d⟩:=ctd b1270 h
 conv=>whnf
 obtain ⟨⟨y1385,y1386,y1387,y1388⟩,hc,hk1271⟩:=bind_some h
 clear h
 have h:=hc
 clear hc
 refine Cut.mk (mkSt [(1,.im (.ref (zab m_))),(2,.own 130 1 0),(4,.im (nL cI c51.1)),(6,.osl 131 1),(7,.osl 132 1),(9,.own 133 1 0),(10,.im (nI (↑i1027:Int))),(11,.osl 136 1),(12,.osl 137 1)] [(130,.box 24 4),(131,.row 3 1 (List.map cI y1385)),(132,.row 3 1 (List.map cI y1386)),(133,.box 24 4),(134,.row 47 1 (List.map (cL cI) y1025)),(135,.row 47 1 (List.map (cL cI) y1026)),(136,.row 3 1 (List.map cI y1387)),(137,.row 3 1 (List.map cI y1388))] [(130,0,.im (nI 0)),(130,1,.im (nI 0)),(130,2,.im (.val (.slice none 0 0))),(130,3,.im (.val (.slice none 0 0))),(133,0,.im (nI m_.Inputs)),(133,1,.im (nI 0)),(133,2,.osl 134 1),(133,3,.osl 135 1)]) (lZ c51.1∧lZ y1385∧lZ y1386∧lZ y1025∧lZ y1026∧lZ y1387∧lZ y1388∧True) ((Holds.avl 4 rfl).and ((Holds.kdl 131 rfl).and ((Holds.kdl 132 rfl).and ((Holds.kdl 134 rfl).and ((Holds.kdl 135 rfl).and ((Holds.kdl 136 rfl).and ((Holds.kdl 137 rfl).and (hT)))))))) ?_ (fun hp=>?_)
 conv=>whnf
 refine Loops.iter (fun (s:List Int×List Int×List Int×List Int×Nat)=>R08_Min.s56 m_ c51 i1027 s.1 s.2.1 s.2.2.1 s.2.2.2.1 s.2.2.2.2) (fun (y1419,y1420,y1421,y1422,a1423)=>mkSt [(1,.im (.ref (zab m_))),(2,.own 130 1 0),(4,.im (nL cI c51.1)),(6,.osl 131 1),(7,.osl 132 1),(9,.own 133 1 0),(10,.im (nI (↑i1027:Int))),(11,.osl 136 1),(12,.osl 137 1),(13,.im (nI (↑a1423:Int)))] [(130,.box 24 4),(131,.row 3 1 (List.map cI y1419)),(132,.row 3 1 (List.map cI y1420)),(133,.box 24 4),(134,.row 47 1 (List.map (cL cI) y1025)),(135,.row 47 1 (List.map (cL cI) y1026)),(136,.row 3 1 (List.map cI y1421)),(137,.row 3 1 (List.map cI y1422))] [(130,0,.im (nI 0)),(130,1,.im (nI 0)),(130,2,.im (.val (.slice none 0 0))),(130,3,.im (.val (.slice none 0 0))),(133,0,.im (nI m_.Inputs)),(133,1,.im (nI 0)),(133,2,.osl 134 1),(133,3,.osl 135 1)]) (fun (y1419,y1420,y1421,y1422,a1423)=>lZ c51.1∧lZ y1419∧lZ y1420∧lZ y1025∧lZ y1026∧lZ y1421∧lZ y1422∧True) h (eA [(130,some 130),(131,some 131),(132,some 132),(133,some 133),(134,some 134),(135,some 135),(136,none),(137,none)]) (by rintro ⟨y1419,y1420,y1421,y1422,a1423⟩;exact ((Holds.avl 4 rfl).and ((Holds.kdl 131 rfl).and ((Holds.kdl 132 rfl).and ((Holds.kdl 134 rfl).and ((Holds.kdl 135 rfl).and ((Holds.kdl 136 rfl).and ((Holds.kdl 137 rfl).and (hT))))))))) ?_
 clear h
 rintro k ⟨y1419,y1420,y1421,y1422,a1423⟩ o hp h ho1459
 replace h:R08_Min.s56 m_ c51 i1027 y1419 y1420 y1421 y1422 a1423=some o:=h
 unfold R08_Min.s56 at h
 obtain ⟨z1495,z1496,z1497,z1498,z1499,z1500,z1501,_⟩:=hp
 conv=>whnf
 refine Both.mk ?_ ?_<;>intro b1460
 obtain ⟨h,b1460d⟩:=ctd b1460 h
 conv=>whnf
 obtain ⟨e1461,he1461,h⟩:=zac h
 refine Side.mk ⟨(by omega),rfl,map_lt he1461⟩ ?_
 conv=>whnf
 refine ⟨_,_,⟨rfl,map_at he1461,rfl,rfl⟩,?_⟩
 conv=>whnf
 obtain ⟨e1462,he1462z,he1462,h⟩:=idx_some h
 refine ⟨_,⟨he1462z,map_at he1462,rfl⟩,?_⟩
 conv=>whnf
 obtain ⟨e1463,he1463,h⟩:=zac h
 refine ⟨_,⟨(by omega),map_at he1463,rfl⟩,?_⟩
 conv=>whnf
 obtain ⟨⟨y1472,y1473⟩,hc,hk1465⟩:=bind_some h
 clear h
 have h:=hc
 clear hc
 refine Cut.mk (mkSt [(1,.im (.ref (zab m_))),(2,.own 130 1 0),(4,.im (nL cI c51.1)),(6,.osl 131 1),(7,.osl 132 1),(9,.own 133 1 0),(10,.im (nI (↑i1027:Int))),(11,.osl 136 1),(12,.osl 137 1),(13,.im (nI (↑a1423:Int))),(14,.im (nI e1463))] [(130,.box 24 4),(131,.row 3 1 (List.map cI y1472)),(132,.row 3 1 (List.map cI y1473)),(133,.box 24 4),(134,.row 47 1 (List.map (cL cI) y1025)),(135,.row 47 1 (List.map (cL cI) y1026)),(136,.row 3 1 (List.map cI y1421)),(137,.row 3 1 (List.map cI y1422))] [(130,0,.im (nI 0)),(130,1,.im (nI 0)),(130,2,.im (.val (.slice none 0 0))),(130,3,.im (.val (.slice none 0 0))),(133,0,.im (nI m_.Inputs)),(133,1,.im (nI 0)),(133,2,.osl 134 1),(133,3,.osl 135 1)]) (lZ c51.1∧lZ y1472∧lZ y1473∧lZ y1025∧lZ y1026∧lZ y1421∧lZ y1422∧True) ((Holds.avl 4 rfl).and ((Holds.kdl 131 rfl).and ((Holds.kdl 132 rfl).and ((Holds.kdl 134 rfl).and ((Holds.kdl 135 rfl).and ((Holds.kdl 136 rfl).and ((Holds.kdl 137 rfl).and (hT)))))))) ?_ (fun hp=>?_)
 conv=>whnf
 obtain ⟨e1474,he1474z,he1474,h⟩:=idx_some h
 refine ⟨_,⟨he1474z,map_at he1474,rfl⟩,?_⟩
 conv=>whnf
 obtain ⟨e1475,he1475z,he1475,h⟩:=idx_some h
 refine Side.mk ⟨he1475z,rfl,map_lt he1475⟩ ?_
 conv=>whnf
 refine ⟨_,_,⟨rfl,map_at he1475,rfl,rfl⟩,?_⟩
 conv=>whnf
 refine Both.mk ?_ ?_<;>intro b1476
 obtain ⟨h,b1476d⟩:=ctd b1476 h
 conv=>whnf
 obtain ⟨e1477,he1477z,he1477,h⟩:=idx_some h
 refine ⟨_,⟨he1477z,map_at he1477,rfl⟩,?_⟩
 conv=>whnf
 refine Side.mk rfl ?_
 conv=>whnf
 refine Nf.mk (List.length y1419) len_map ?_
 conv=>whnf
 obtain ⟨e1478,he1478z,he1478,h⟩:=idx_some h
 refine Side.mk ⟨he1478z,rfl,map_lt he1478⟩ ?_
 conv=>whnf
 refine Side.mk ⟨rfl,trivial⟩ ?_
 conv=>whnf
 refine ⟨_,map_at he1478,?_⟩
 conv=>whnf
 refine Nf.mk (List.map cI (List.set y1420 e1477.toNat (↑(List.length y1419):Int))) (set_map rfl) ?_
 conv=>whnf
 obtain ⟨c1479,h⟩:=chk_some h
 refine Side.mk ⟨rfl,map_len (l:=[e1463]) (c:=cI) fun _=>rfl,show capOk _ 8 by simpa only [List.length_map,List.length_cons,List.length_nil,Nat.zero_add] using c1479⟩ ?_
 conv=>whnf
 refine Nf.mk (List.map cI (y1419++[e1463])) (app_map (l:=y1419) (m:=[e1463]) (c:=cI)) ?_
 conv=>whnf
 cases h
 exact Join.mk (eA [(130,some 130),(131,some 131),(132,some 132),(133,some 133),(134,some 134),(135,some 135),(136,some 136),(137,some 137)])
 obtain ⟨h,b1476d⟩:=cfd b1476 h
 conv=>whnf
 cases h
 exact Join.mk (eA [(130,some 130),(131,some 131),(132,some 132),(133,some 133),(134,some 134),(135,some 135),(136,some 136),(137,some 137)])
 replace h:R08_Min.k55 m_ c51 i1027 y1421 y1422 a1423 e1463 y1472 y1473=some _:=hk1465
 unfold R08_Min.k55 at h
 obtain ⟨z1480,z1481,z1482,z1483,z1484,z1485,z1486,_⟩:=hp
 conv=>whnf
 obtain ⟨e1487,he1487z,he1487,h⟩:=idx_some h
 refine ⟨_,⟨he1487z,map_at he1487,rfl⟩,?_⟩
 conv=>whnf
 obtain ⟨e1488,he1488z,he1488,h⟩:=idx_some h
 refine Side.mk ⟨he1488z,rfl,map_lt he1488⟩ ?_
 conv=>whnf
 refine ⟨_,_,⟨rfl,map_at he1488,rfl,rfl⟩,?_⟩
 conv=>whnf
 obtain ⟨c1489,h⟩:=chk_some h
 refine Side.mk ⟨rfl,map_len (l:=[e1488]) (c:=cI) fun _=>rfl,show capOk _ 8 by simpa only [List.length_map,List.length_cons,List.length_nil,Nat.zero_add] using c1489⟩ ?_
 conv=>whnf
 refine Nf.mk (List.map cI (y1421++[e1488])) (app_map (l:=y1421) (m:=[e1488]) (c:=cI)) ?_
 conv=>whnf
 obtain ⟨e1490,he1490,h⟩:=zac h
 refine Side.mk ⟨(by omega),rfl,map_lt he1490⟩ ?_
 conv=>whnf
 refine ⟨_,_,⟨rfl,map_at he1490,rfl,rfl⟩,?_⟩
 conv=>whnf
 obtain ⟨e1491,he1491z,he1491,h⟩:=idx_some h
 refine ⟨_,⟨he1491z,map_at he1491,rfl⟩,?_⟩
 conv=>whnf
 obtain ⟨e1492,he1492,h⟩:=zac h
 refine ⟨_,⟨(by omega),map_at he1492,rfl⟩,?_⟩
 conv=>whnf
 obtain ⟨c1493,h⟩:=chk_some h
 refine Side.mk ⟨rfl,map_len (l:=[e1492]) (c:=cI) fun _=>rfl,show capOk _ 8 by simpa only [List.length_map,List.length_cons,List.length_nil,Nat.zero_add] using c1493⟩ ?_
 conv=>whnf
 refine Nf.mk (List.map cI (y1422++[e1492])) (app_map (l:=y1422) (m:=[e1492]) (c:=cI)) ?_
 conv=>whnf
 obtain ⟨c1494,h⟩:=chk_some h
 refine Arith.mk c1494 ?_
 conv=>whnf
 cases h
 exact Nxt.mk _ ho1459 (eA [(130,some 130),(131,some 131),(132,some 132),(133,some 133),(134,some 134),(135,some 135),(136,some 136),(137,some 137)])
 obtain ⟨h,b1460d⟩:=cfd b1460 h
 conv=>whnf
 cases h
 have ho1459:_=_:=ho1459
 cases ho1459
 exact Join.mk (eA [(130,some 130),(131,some 131),(132,some 132),(133,some 133),(134,some 134),(135,some 135),(136,some 136),(137,some 137)])
 replace h:R08_Min.k57 y1025 y1026 i1027 y1385 y1386 y1387 y1388=some _:=hk1271
 unfold R08_Min.k57 at h
 obtain ⟨z1502,z1503,z1504,z1505,z1506,z1507,z1508,_⟩:=hp
 conv=>whnf
 refine Side.mk rfl ?_
 conv=>whnf
 refine Side.mk rfl ?_
 conv=>whnf
 refine Side.mk ⟨rfl,trivial⟩ ?_
 conv=>whnf
 obtain ⟨c1509,h⟩:=chk_some h
 refine Side.mk ⟨rfl,map_len (l:=[y1387]) (c:=cL cI) fun _=>rfl,show capOk _ 24 by simpa only [List.length_map,List.length_cons,List.length_nil,Nat.zero_add] using c1509⟩ ?_
 conv=>whnf
 refine Nf.mk (List.map (cL cI) (y1025++[y1387])) (app_map (l:=y1025) (m:=[y1387]) (c:=cL cI)) ?_
 conv=>whnf
 refine Side.mk rfl ?_
 conv=>whnf
 refine Side.mk rfl ?_
 conv=>whnf
 refine Side.mk rfl ?_
 conv=>whnf
 refine Side.mk rfl ?_
 conv=>whnf
 refine Side.mk ⟨rfl,trivial⟩ ?_
 conv=>whnf
 obtain ⟨c1510,h⟩:=chk_some h
 refine Side.mk ⟨rfl,map_len (l:=[y1388]) (c:=cL cI) fun _=>rfl,show capOk _ 24 by simpa only [List.length_map,List.length_cons,List.length_nil,Nat.zero_add] using c1510⟩ ?_
 conv=>whnf
 refine Nf.mk (List.map (cL cI) (y1026++[y1388])) (app_map (l:=y1026) (m:=[y1388]) (c:=cL cI)) ?_
 conv=>whnf
 refine Side.mk rfl ?_
 conv=>whnf
 refine Side.mk rfl ?_
 conv=>whnf
 refine Arith.mk (by show inR _;unfold inR;omega) ?_
 conv=>whnf
 cases h
 exact Nxt.mk _ ho1269 (eA [(130,some 130),(131,some 131),(132,some 132),(133,some 133),(134,some 134),(135,some 135)])
 obtain ⟨h,b1270d⟩:=cfd b1270 h
 conv=>whnf
 cases h
 have ho1269:_=_:=ho1269
 cases ho1269
 exact Join.mk (eA [(130,some 130),(131,some 133),(132,some 134),(133,some 135)])
 replace h:R08_Min.k59 m_ y800 y801=some _:=hk85
 unfold R08_Min.k59 at h
 obtain ⟨z1516,z1517,_⟩:=hp
 conv=>whnf
 refine Side.mk rfl ?_
 conv=>whnf
 refine Side.mk rfl ?_
 conv=>whnf
 cases h
 conv=>whnf
 refine Side.mk ⟨rfl,trivial⟩ ?_
 conv=>whnf
 exact Side.mk ⟨rfl,rfl,trivial⟩ ⟨rfl,rfl⟩
theorem sp_R01_Next (w_:List Int) (inputs_:Int) (r:List Int×Bool) (h:Ok (nL cI w_)→Ok (nI inputs_)→R01_Next w_ inputs_=some r):Sp Tryz.prog 92 [.im (nL cI w_),.im (nI inputs_)] (.tup [nL cI r.1,nB r.2]):=by
 refine sp_of rfl [12] rfl rfl rfl (Nat.le_of_ble_eq_true rfl) rfl fun hk=>?_
 replace h:=h hk.1 hk.2.1
 have z1:lZ w_:=ok_len hk.1
 unfold R01_Next at h
 conv=>whnf
 obtain ⟨c51,hc51,h⟩:=bind_some h
 refine ⟨_,(zit w_ inputs_ c51 (fun _ _=>hc51)),?_⟩
 conv=>whnf
 refine Both.mk ?_ ?_<;>intro b52
 obtain ⟨h,b52d⟩:=ctd b52 h
 conv=>whnf
 cases h
 conv=>whnf
 exact ⟨rfl,rfl⟩
 obtain ⟨h,b52d⟩:=cfd b52 h
 conv=>whnf
 obtain ⟨c53,h⟩:=chk_some h
 refine Side.mk ⟨rfl,map_len (l:=w_) (c:=cI) fun _=>rfl,show capOk _ 8 by simpa only [List.length_map,List.length_cons,List.length_nil,Nat.zero_add] using c53⟩ ?_
 conv=>whnf
 refine Nf.mk (List.map cI ([]++w_)) (app_map (l:=[]) (m:=w_) (c:=cI)) ?_
 conv=>whnf
 refine Side.mk rfl ?_
 conv=>whnf
 refine Nf.mk (List.length ([]++w_)) len_map ?_
 conv=>whnf
 obtain ⟨c54,h⟩:=chk_some h
 refine Arith.mk c54 ?_
 conv=>whnf
 obtain ⟨oc,hc,hk55⟩:=bind_some h
 clear h
 have h:=hc
 clear hc
 refine Cut.mkS oc (Y:=List Int) (fun y88=>mkSt [(0,.im (nL cI w_)),(6,.osl 64 1)] [(64,.row 3 1 (List.map cI y88))] []) (fun y88=>lZ w_∧lZ y88∧True) (by rintro y88;exact ((Holds.avl 0 rfl).and ((Holds.kdl 64 rfl).and (hT)))) ?_ ?_
 conv=>whnf
 refine Loops.iter (fun (s:List Int×Int)=>R01_Next.s2 inputs_ s.1 s.2) (fun (y98,i99)=>mkSt [(0,.im (nL cI w_)),(1,.im (nI inputs_)),(6,.osl 64 1),(7,.im (nI i99))] [(64,.row 3 1 (List.map cI y98))] []) (fun (y98,i99)=>lZ w_∧lZ y98∧True) h (eA [(64,some 12)]) (by rintro ⟨y98,i99⟩;exact ((Holds.avl 0 rfl).and ((Holds.kdl 64 rfl).and (hT)))) ?_
 clear h
 rintro k ⟨y98,i99⟩ o hp h ho109
 replace h:R01_Next.s2 inputs_ y98 i99=some o:=h
 unfold R01_Next.s2 at h
 obtain ⟨z119,z120,_⟩:=hp
 conv=>whnf
 refine Both.mk ?_ ?_<;>intro b110
 obtain ⟨h,b110d⟩:=ctd b110 h
 conv=>whnf
 obtain ⟨e111,he111z,he111,h⟩:=idx_some h
 refine Side.mk ⟨he111z,rfl,map_lt he111⟩ ?_
 conv=>whnf
 refine ⟨_,_,⟨rfl,map_at he111,rfl,rfl⟩,?_⟩
 conv=>whnf
 obtain ⟨c112,h⟩:=chk_some h
 refine Arith.mk c112 ?_
 conv=>whnf
 refine Both.mk ?_ ?_<;>intro b113
 obtain ⟨h,b113d⟩:=ctd b113 h
 conv=>whnf
 obtain ⟨e114,he114z,he114,h⟩:=idx_some h
 refine Side.mk ⟨he114z,rfl,map_lt he114⟩ ?_
 conv=>whnf
 refine ⟨_,_,⟨rfl,map_at he114,rfl,rfl⟩,?_⟩
 conv=>whnf
 obtain ⟨c115,h⟩:=chk_some h
 refine Arith.mk c115 ?_
 conv=>whnf
 obtain ⟨e116,he116z,he116,h⟩:=idx_some h
 refine Side.mk ⟨he116z,rfl,map_lt he116⟩ ?_
 conv=>whnf
 refine Side.mk ⟨rfl,trivial⟩ ?_
 conv=>whnf
 refine ⟨_,map_at he116,?_⟩
 conv=>whnf
 refine Nf.mk (List.map cI (List.set y98 i99.toNat (e114+1))) (set_map rfl) ?_
 conv=>whnf
 cases h
 have ho109:_=_:=ho109
 cases ho109
 replace h:some _=some _:=hk55
 cases h
 conv=>whnf
 exact Side.mk ⟨rfl,trivial⟩ ⟨rfl,rfl⟩
 obtain ⟨h,b113d⟩:=cfd b113 h
 conv=>whnf
 obtain ⟨e117,he117z,he117,h⟩:=idx_some h
 refine Side.mk ⟨he117z,rfl,map_lt he117⟩ ?_
 conv=>whnf
 refine Side.mk ⟨rfl,trivial⟩ ?_
 conv=>whnf
 refine ⟨_,map_at he117,?_⟩
 conv=>whnf
 refine Nf.mk (List.map cI (List.set y98 i99.toNat 0)) (set_map rfl) ?_
 conv=>whnf
 obtain ⟨c118,h⟩:=chk_some h
 refine Arith.mk c118 ?_
 conv=>whnf
 cases h
 exact Nxt.mk _ ho109 (eA [(64,some 64)])
 obtain ⟨h,b110d⟩:=cfd b110 h
 conv=>whnf
 cases h
 have ho109:_=_:=ho109
 cases ho109
 exact JoinS.mk' _ rfl (eA [(64,some 64)])
 rintro y88 rfl hp
 replace h:=sum_inl hk55
 obtain ⟨z121,z122,_⟩:=hp
 conv=>whnf
 refine Nf.mk (List.length w_) len_map ?_
 conv=>whnf
 refine Both.mk ?_ ?_<;>intro b123
 obtain ⟨h,b123d⟩:=ctd b123 h
 conv=>whnf
 cases h
 conv=>whnf
 exact ⟨rfl,rfl⟩
 obtain ⟨h,b123d⟩:=cfd b123 h
 conv=>whnf
 obtain ⟨c124,h⟩:=chk_some h
 refine Side.mk ⟨rfl,map_len (l:=[0]) (c:=cI) fun _=>rfl,show capOk _ 8 by simpa only [List.length_map,List.length_cons,List.length_nil,Nat.zero_add] using c124⟩ ?_
 conv=>whnf
 refine Nf.mk (List.map cI (y88++[0])) (app_map (l:=y88) (m:=[0]) (c:=cI)) ?_
 conv=>whnf
 cases h
 conv=>whnf
 exact Side.mk ⟨rfl,trivial⟩ ⟨rfl,rfl⟩
theorem sp_R02_Upto (inputs_:Int) (n_:Int) (r:List (List Int)×Int) (h:Ok (nI inputs_)→Ok (nI n_)→R02_Upto inputs_ n_=some r):Sp Tryz.prog 65 [.im (nI inputs_),.im (nI n_)] (.tup [nL (cL cI) r.1,nI r.2]):=by
 refine sp_of rfl [] rfl rfl rfl (Nat.le_of_ble_eq_true rfl) rfl fun hk=>?_
 replace h:=h hk.1 hk.2.1
 unfold R02_Upto at h
 conv=>whnf
 obtain ⟨y56,hc,hk52⟩:=bind_some h
 clear h
 have h:=hc
 clear hc
 refine Cut.mk (mkSt [(0,.im (nI inputs_)),(1,.im (nI n_)),(19,.im (nB y56))] [] []) (True) (hT) ?_ (fun hp=>?_)
 conv=>whnf
 obtain ⟨c57,hc57,h⟩:=bind_some h
 refine ⟨_,(zkl inputs_ c57 (fun _=>hc57)),?_⟩
 conv=>whnf
 refine Both.mk ?_ ?_<;>intro b58
 replace b58:=beq_ff b58
 replace h:=cond_f b58 h
 conv=>whnf
 refine Both.yes (ff_beq b58) ?_
 conv=>whnf
 refine Both.no b58 ?_
 conv=>whnf
 refine Both.mk ?_ ?_<;>intro b59
 replace b59:=beq_ff b59
 obtain ⟨h,b59d⟩:=cfd b59 h
 conv=>whnf
 refine Both.yes (ff_beq b59) ?_
 conv=>whnf
 refine Both.no b59 ?_
 conv=>whnf
 cases h
 exact Join.mk (eA [])
 replace b59:=beq_ft b59
 obtain ⟨h,b59d⟩:=ctd b59 h
 conv=>whnf
 refine Both.no (tf_beq b59) ?_
 conv=>whnf
 refine Both.yes b59 ?_
 conv=>whnf
 cases h
 exact Join.mk (eA [])
 replace b58:=beq_ft b58
 replace h:=cond_t b58 h
 conv=>whnf
 refine Both.no (tf_beq b58) ?_
 conv=>whnf
 refine Both.yes b58 ?_
 conv=>whnf
 iterate 2 (refine Both.no rfl ?_;(conv=>whnf))
 refine Both.yes rfl ?_
 conv=>whnf
 cases h
 exact Join.mk (eA [])
 replace h:=hk52
 conv=>whnf
 refine Both.mk ?_ ?_<;>intro b60
 replace h:=cond_t b60 h
 conv=>whnf
 cases h
 conv=>whnf
 exact ⟨rfl,rfl⟩
 replace h:=cond_f b60 h
 conv=>whnf
 obtain ⟨oc,hc,hk61⟩:=bind_some h
 clear h
 have h:=hc
 clear hc
 refine Cut.mkS oc (Y:=List (List Int)) (fun y95=>mkSt [(7,.osl 64 1)] [(64,.row 47 1 (List.map (cL cI) y95))] []) (fun y95=>lZ y95∧True) (by rintro y95;exact ((Holds.kdl 64 rfl).and (hT))) ?_ ?_
 conv=>whnf
 refine Loops.iter (fun (s:List Int×List (List Int)×Bool)=>R02_Upto.s2 inputs_ n_ s.1 s.2.1 s.2.2) (fun (w101,y102,ok103)=>mkSt [(0,.im (nI inputs_)),(1,.im (nI n_)),(6,.im (nL cI w101)),(7,.osl 64 1),(8,.im (nB ok103))] [(64,.row 47 1 (List.map (cL cI) y102))] []) (fun (w101,y102,ok103)=>lZ w101∧lZ y102∧True) h (Ent.mk [(64,none)] rfl ⟨eI rfl rfl,eI rfl rfl,⟨.im (.val (.slice none 0 0)),rfl,.im (Sub.nz' rfl)⟩,⟨.im (.val (.slice none 0 0)),rfl,.made rfl rfl⟩,eI rfl rfl,trivial⟩ ⟨.inr ⟨rfl,rfl,.inl ⟨_,_,rfl,by decide⟩⟩,trivial⟩ trivial) (by rintro ⟨w101,y102,ok103⟩;exact ((Holds.avl 6 rfl).and ((Holds.kdl 64 rfl).and (hT)))) ?_
 clear h
 rintro k ⟨w101,y102,ok103⟩ o hp h ho115
 replace h:R02_Upto.s2 inputs_ n_ w101 y102 ok103=some o:=h
 unfold R02_Upto.s2 at h
 obtain ⟨z127,z128,_⟩:=hp
 conv=>whnf
 obtain ⟨y119,hc,hk117⟩:=bind_some h
 clear h
 have h:=hc
 clear hc
 refine Cut.mk (mkSt [(0,.im (nI inputs_)),(1,.im (nI n_)),(6,.im (nL cI w101)),(7,.osl 64 1),(26,.im (nB y119))] [(64,.row 47 1 (List.map (cL cI) y102))] []) (lZ w101∧lZ y102∧True) ((Holds.avl 6 rfl).and ((Holds.kdl 64 rfl).and (hT))) ?_ (fun hp=>?_)
 conv=>whnf
 refine Both.mk ?_ ?_<;>intro b120
 replace b120:=beq_tt b120
 replace h:=cond_t b120 h
 conv=>whnf
 refine Both.yes (tt_beq b120) ?_
 conv=>whnf
 refine Nf.mk (List.length w101) len_map ?_
 conv=>whnf
 iterate 2 (refine Both.yes (tt_beq b120) ?_;(conv=>whnf))
 refine Both.yes b120 ?_
 conv=>whnf
 cases h
 exact Join.mk (eA [(64,some 64)])
 replace b120:=beq_tf b120
 replace h:=cond_f b120 h
 conv=>whnf
 iterate 3 (refine Both.no (ft_beq b120) ?_;(conv=>whnf))
 refine Both.no b120 ?_
 conv=>whnf
 cases h
 exact Join.mk (eA [(64,some 64)])
 replace h:=hk117
 obtain ⟨z121,z122,_⟩:=hp
 conv=>whnf
 refine Both.mk ?_ ?_<;>intro b123
 replace h:=cond_t b123 h
 conv=>whnf
 refine Side.mk rfl ?_
 conv=>whnf
 refine Nf.mk (List.length y102) len_map ?_
 conv=>whnf
 refine Both.mk ?_ ?_<;>intro b124
 obtain ⟨h,b124d⟩:=ctd b124 h
 conv=>whnf
 cases h
 have ho115:_=_:=ho115
 cases ho115
 replace h:some _=some _:=hk61
 cases h
 conv=>whnf
 exact ⟨rfl,rfl⟩
 obtain ⟨h,b124d⟩:=cfd b124 h
 conv=>whnf
 obtain ⟨c125,h⟩:=chk_some h
 refine Side.mk ⟨rfl,map_len (l:=[w101]) (c:=cL cI) fun _=>rfl,show capOk _ 24 by simpa only [List.length_map,List.length_cons,List.length_nil,Nat.zero_add] using c125⟩ ?_
 conv=>whnf
 refine Nf.mk (List.map (cL cI) (y102++[w101])) (app_map (l:=y102) (m:=[w101]) (c:=cL cI)) ?_
 conv=>whnf
 obtain ⟨c126,hc126,h⟩:=bind_some h
 refine ⟨_,(sp_R01_Next w101 inputs_ c126 (fun _ _=>hc126)),?_⟩
 conv=>whnf
 cases h
 exact Nxt.mk _ ho115 (eA [(64,some 64)])
 replace h:=cond_f b123 h
 conv=>whnf
 cases h
 have ho115:_=_:=ho115
 cases ho115
 exact JoinS.mk' _ rfl (eA [(64,some 64)])
 rintro y95 rfl hp
 replace h:=sum_inl hk61
 obtain ⟨z129,_⟩:=hp
 conv=>whnf
 cases h
 conv=>whnf
 exact Side.mk ⟨rfl,trivial⟩ ⟨rfl,rfl⟩
theorem sp_R10_has (l_:List Int) (n_:Int) (r:Bool) (h:Ok (nL cI l_)→Ok (nI n_)→R10_has l_ n_=some r):Sp Tryz.prog 107 [.im (nL cI l_),.im (nI n_)] (.im (nB r)):=by
 refine sp_of rfl [] rfl rfl rfl (Nat.le_of_ble_eq_true rfl) rfl fun hk=>?_
 replace h:=h hk.1 hk.2.1
 have z1:lZ l_:=ok_len hk.1
 unfold R10_has at h
 conv=>whnf
 obtain ⟨oc,hc,hk51⟩:=bind_some h
 clear h
 have h:=hc
 clear hc
 refine Cut.mkS oc (Y:=Unit) (fun (_:Unit)=>mkSt [] [] []) (fun (_:Unit)=>True) (by rintro ⟨⟩;exact (hT)) ?_ ?_
 conv=>whnf
 refine Loops.iter (fun (s:Nat)=>R10_has.s2 l_ n_ s) (fun i67=>mkSt [(0,.im (nL cI l_)),(1,.im (nI n_)),(5,.im (nI (↑i67:Int)))] [] []) (fun i67=>lZ l_∧True) h (eA []) (by rintro i67;exact ((Holds.avl 0 rfl).and (hT))) ?_
 clear h
 rintro k i67 o hp h ho71
 replace h:R10_has.s2 l_ n_ i67=some o:=h
 unfold R10_has.s2 at h
 obtain ⟨z75,_⟩:=hp
 conv=>whnf
 refine Nf.mk (List.length l_) len_map ?_
 conv=>whnf
 refine Both.mk ?_ ?_<;>intro b72
 obtain ⟨h,b72d⟩:=ctd b72 h
 conv=>whnf
 obtain ⟨e73,he73,h⟩:=zac h
 refine ⟨_,⟨(by omega),map_at he73,rfl⟩,?_⟩
 conv=>whnf
 refine Both.mk ?_ ?_<;>intro b74
 obtain ⟨h,b74d⟩:=ctd b74 h
 conv=>whnf
 cases h
 have ho71:_=_:=ho71
 cases ho71
 replace h:some _=some _:=hk51
 cases h
 conv=>whnf
 exact ⟨rfl,rfl⟩
 obtain ⟨h,b74d⟩:=cfd b74 h
 conv=>whnf
 refine Arith.mk (by show inR _;unfold inR;omega) ?_
 conv=>whnf
 cases h
 exact Nxt.mk _ ho71 (eA [])
 obtain ⟨h,b72d⟩:=cfd b72 h
 conv=>whnf
 cases h
 have ho71:_=_:=ho71
 cases ho71
 exact JoinS.mk' _ rfl (eA [])
 rintro ⟨⟩ rfl hp
 replace h:=sum_inl hk51
 conv=>whnf
 cases h
 conv=>whnf
 exact ⟨rfl,rfl⟩
theorem zf3 (w_:List Int) (a_:Int) (r:List Int) (h:Ok (nL cI w_)→Ok (nI a_)→zc0 w_ a_=some r):Sp Tryz.prog 108 [.im (nL cI w_),.im (nI a_)] (.row 3 1 (List.map cI r)):=by
 refine sp_of rfl [] rfl rfl rfl (Nat.le_of_ble_eq_true rfl) rfl fun hk=>?_
 replace h:=h hk.1 hk.2.1
 have z1:lZ w_:=ok_len hk.1
 unfold zc0 at h
 conv=>whnf
 obtain ⟨c51,h⟩:=chk_some h
 refine Side.mk ⟨map_len (l:=w_) (c:=cI) fun _=>rfl,show capOk _ 8 by simpa only [List.length_map,List.length_cons,List.length_nil,Nat.zero_add] using c51⟩ ?_
 conv=>whnf
 refine Nf.mk (List.map cI w_) rfl ?_
 conv=>whnf
 obtain ⟨c52,h⟩:=chk_some h
 refine Side.mk ⟨rfl,map_len (l:=[a_]) (c:=cI) fun _=>rfl,show capOk _ 8 by simpa only [List.length_map,List.length_cons,List.length_nil,Nat.zero_add] using c52⟩ ?_
 conv=>whnf
 refine Nf.mk (List.map cI (w_++[a_])) (app_map (l:=w_) (m:=[a_]) (c:=cI)) ?_
 conv=>whnf
 cases h
 conv=>whnf
 exact Side.mk ⟨rfl,trivial⟩ ⟨rfl,rfl⟩
end Go.Proofs.YtcneaiejdidooaaGreat.Sym

/-
  The contracts of the functions, read from the code by a program (ext.py): each function has its plain twin as its contract.
-/
namespace Go.Proofs.YtcneaiejdidooaaGreat.Sym
open Go.RowKit
set_option maxRecDepth 100000
set_option linter.unusedVariables false
set_option maxHeartbeats 4000000
theorem sp_R10_Access (m_:zaa) (r:List Int×List (List Int)×Int) (h:Ok (.agg (zab m_))→za8 m_=some r):Sp Tryz.prog 93 [.im (.agg (zab m_))] (.tup [nL cI r.1,nL (cL cI) r.2.1,nI r.2.2]):=by
 refine sp_of rfl [18,20,500046,700001] rfl rfl rfl (Nat.le_of_ble_eq_true rfl) rfl fun hk=>?_
 replace h:=h hk.1
 have z1:lZ m_.Next:=ok_len (Ok.agg_at hk.1 2 rfl)
 have z2:lZ m_.Out:=ok_len (Ok.agg_at hk.1 3 rfl)
 unfold za8 at h
 conv=>whnf
 obtain ⟨c51,hc51,h⟩:=bind_some h
 refine ⟨_,(zda m_ c51 (fun _=>hc51)),?_⟩
 conv=>whnf
 refine Both.mk ?_ ?_<;>intro b52
 obtain ⟨h,b52d⟩:=ctd b52 h
 conv=>whnf
 cases h
 conv=>whnf
 exact ⟨rfl,rfl⟩
 obtain ⟨h,b52d⟩:=cfd b52 h
 conv=>whnf
 obtain ⟨⟨y318,y319⟩,hc,hk53⟩:=bind_some h
 clear h
 have h:=hc
 clear hc
 refine Cut.mk (mkSt [(6,.osl 64 1),(7,.osl 65 1)] [(64,.row 3 1 (List.map cI y318)),(65,.row 47 1 (List.map (cL cI) y319))] []) (lZ y318∧lZ y319∧True) ((Holds.kdl 64 rfl).and ((Holds.kdl 65 rfl).and (hT))) ?_ (fun hp=>?_)
 conv=>whnf
 refine Loops.iter (fun (s:List Int×List (List Int)×Nat)=>za8.s20 m_ s.1 s.2.1 s.2.2) (fun (y406,y407,i408)=>mkSt [(1,.im (.ref (zab m_))),(6,.osl 64 1),(7,.osl 65 1),(8,.im (nI (↑i408:Int)))] [(64,.row 3 1 (List.map cI y406)),(65,.row 47 1 (List.map (cL cI) y407))] []) (fun (y406,y407,i408)=>lZ y406∧lZ y407∧True) h (eA [(64,some 18),(65,some 20)]) (by rintro ⟨y406,y407,i408⟩;exact ((Holds.kdl 64 rfl).and ((Holds.kdl 65 rfl).and (hT)))) ?_
 clear h
 rintro k ⟨y406,y407,i408⟩ o hp h ho495
 replace h:za8.s20 m_ y406 y407 i408=some o:=h
 unfold za8.s20 at h
 obtain ⟨z582,z583,_⟩:=hp
 conv=>whnf
 refine Side.mk rfl ?_
 conv=>whnf
 refine Nf.mk (List.length y406) len_map ?_
 conv=>whnf
 refine Both.mk ?_ ?_<;>intro b496
 obtain ⟨h,b496d⟩:=ctd b496 h
 conv=>whnf
 obtain ⟨⟨y538,y539⟩,hc,hk497⟩:=bind_some h
 clear h
 have h:=hc
 clear hc
 refine Cut.mk (mkSt [(1,.im (.ref (zab m_))),(6,.osl 64 1),(7,.osl 65 1),(8,.im (nI (↑i408:Int)))] [(64,.row 3 1 (List.map cI y538)),(65,.row 47 1 (List.map (cL cI) y539))] []) (lZ y538∧lZ y539∧True) ((Holds.kdl 64 rfl).and ((Holds.kdl 65 rfl).and (hT))) ?_ (fun hp=>?_)
 conv=>whnf
 refine Loops.iter (fun (s:List Int×List (List Int)×Nat)=>za8.s18 m_ i408 s.1 s.2.1 s.2.2) (fun (y550,y551,a552)=>mkSt [(1,.im (.ref (zab m_))),(6,.osl 64 1),(7,.osl 65 1),(8,.im (nI (↑i408:Int))),(9,.im (nI (↑a552:Int)))] [(64,.row 3 1 (List.map cI y550)),(65,.row 47 1 (List.map (cL cI) y551))] []) (fun (y550,y551,a552)=>lZ y550∧lZ y551∧True) h (eA [(64,some 64),(65,some 65)]) (by rintro ⟨y550,y551,a552⟩;exact ((Holds.kdl 64 rfl).and ((Holds.kdl 65 rfl).and (hT)))) ?_
 clear h
 rintro k ⟨y550,y551,a552⟩ o hp h ho565
 replace h:za8.s18 m_ i408 y550 y551 a552=some o:=h
 unfold za8.s18 at h
 obtain ⟨z578,z579,_⟩:=hp
 conv=>whnf
 refine Both.mk ?_ ?_<;>intro b566
 obtain ⟨h,b566d⟩:=ctd b566 h
 conv=>whnf
 obtain ⟨e567,he567,h⟩:=zac h
 refine Side.mk ⟨(by omega),rfl,map_lt he567⟩ ?_
 conv=>whnf
 refine ⟨_,_,⟨rfl,map_at he567,rfl,rfl⟩,?_⟩
 conv=>whnf
 obtain ⟨e568,he568z,he568,h⟩:=idx_some h
 refine ⟨_,⟨he568z,map_at he568,rfl⟩,?_⟩
 conv=>whnf
 obtain ⟨e569,he569,h⟩:=zac h
 refine ⟨_,⟨(by omega),map_at he569,rfl⟩,?_⟩
 conv=>whnf
 refine Side.mk ⟨rfl,trivial⟩ ?_
 conv=>whnf
 obtain ⟨c570,hc570,h⟩:=bind_some h
 refine ⟨_,(sp_R10_has y550 e569 c570 (fun _ _=>hc570)),?_⟩
 conv=>whnf
 refine Side.mk flat_one ?_
 conv=>whnf
 refine Both.mk ?_ ?_<;>intro b571
 replace h:=cond_t b571 h
 conv=>whnf
 obtain ⟨c572,h⟩:=chk_some h
 refine Side.mk ⟨rfl,map_len (l:=[e569]) (c:=cI) fun _=>rfl,show capOk _ 8 by simpa only [List.length_map,List.length_cons,List.length_nil,Nat.zero_add] using c572⟩ ?_
 conv=>whnf
 refine Nf.mk (List.map cI (y550++[e569])) (app_map (l:=y550) (m:=[e569]) (c:=cI)) ?_
 conv=>whnf
 obtain ⟨e573,he573,h⟩:=zac h
 refine Side.mk ⟨(by omega),rfl,map_lt he573⟩ ?_
 conv=>whnf
 refine ⟨_,_,⟨rfl,map_at he573,rfl,rfl⟩,?_⟩
 conv=>whnf
 obtain ⟨c574,hc574,h⟩:=bind_some h
 refine ⟨_,(zf3 e573 (↑a552:Int) c574 (fun _ _=>hc574)).im,?_⟩
 conv=>whnf
 obtain ⟨c575,h⟩:=chk_some h
 refine Side.mk ⟨rfl,map_len (l:=[c574]) (c:=cL cI) fun _=>rfl,show capOk _ 24 by simpa only [List.length_map,List.length_cons,List.length_nil,Nat.zero_add] using c575⟩ ?_
 conv=>whnf
 refine Nf.mk (List.map (cL cI) (y551++[c574])) (app_map (l:=y551) (m:=[c574]) (c:=cL cI)) ?_
 conv=>whnf
 obtain ⟨c576,h⟩:=chk_some h
 refine Arith.mk c576 ?_
 conv=>whnf
 cases h
 exact Nxt.mk _ ho565 (eA [(64,some 64),(65,some 65)])
 replace h:=cond_f b571 h
 conv=>whnf
 obtain ⟨c577,h⟩:=chk_some h
 refine Arith.mk c577 ?_
 conv=>whnf
 cases h
 exact Nxt.mk _ ho565 (eA [(64,some 64),(65,some 65)])
 obtain ⟨h,b566d⟩:=cfd b566 h
 conv=>whnf
 cases h
 have ho565:_=_:=ho565
 cases ho565
 exact Join.mk (eA [(64,some 64),(65,some 65)])
 replace h:za8.k19 i408 y538 y539=some _:=hk497
 unfold za8.k19 at h
 obtain ⟨z580,z581,_⟩:=hp
 conv=>whnf
 refine Arith.mk (by show inR _;unfold inR;omega) ?_
 conv=>whnf
 cases h
 exact Nxt.mk _ ho495 (eA [(64,some 64),(65,some 65)])
 obtain ⟨h,b496d⟩:=cfd b496 h
 conv=>whnf
 cases h
 have ho495:_=_:=ho495
 cases ho495
 exact Join.mk (eA [(64,some 64),(65,some 65)])
 replace h:za8.k21 y318 y319=some _:=hk53
 unfold za8.k21 at h
 obtain ⟨z584,z585,_⟩:=hp
 conv=>whnf
 cases h
 conv=>whnf
 exact Side.mk ⟨rfl,rfl,trivial⟩ ⟨rfl,rfl⟩
theorem zil (m_:zaa) (r:List (List Int)×Int) (h:Ok (.agg (zab m_))→zc3 m_=some r):Sp Tryz.prog 66 [.im (.agg (zab m_))] (.tup [nL (cL cI) r.1,nI r.2]):=by
 refine sp_of rfl [700001] rfl rfl rfl (Nat.le_of_ble_eq_true rfl) rfl fun hk=>?_
 replace h:=h hk.1
 have z1:lZ m_.Next:=ok_len (Ok.agg_at hk.1 2 rfl)
 have z2:lZ m_.Out:=ok_len (Ok.agg_at hk.1 3 rfl)
 unfold zc3 at h
 conv=>whnf
 obtain ⟨c51,hc51,h⟩:=bind_some h
 refine ⟨_,(sp_R10_Access m_ c51 (fun _=>hc51)),?_⟩
 conv=>whnf
 cases h
 conv=>whnf
 exact ⟨rfl,rfl⟩
theorem sp_R29_Parts (m_:zaa) (extra_:Int) (r:zaa×List (List Int)×List (List Int)×Int) (h:Ok (.agg (zab m_))→Ok (nI extra_)→zdp m_ extra_=some r):Sp Tryz.prog 39 [.im (.agg (zab m_)),.im (nI extra_)] (.tup [.agg (zab r.1),nL (cL cI) r.2.1,nL (cL cI) r.2.2.1,nI r.2.2.2]):=by
 refine sp_of rfl [700002] rfl rfl rfl (Nat.le_of_ble_eq_true rfl) rfl fun hk=>?_
 replace h:=h hk.1 hk.2.1
 have z1:lZ m_.Next:=ok_len (Ok.agg_at hk.1 2 rfl)
 have z2:lZ m_.Out:=ok_len (Ok.agg_at hk.1 3 rfl)
 unfold zdp at h
 conv=>whnf
 obtain ⟨c51,hc51,h⟩:=bind_some h
 refine ⟨_,(zh7 m_ c51 (fun _=>hc51)),?_⟩
 conv=>whnf
 refine Side.mk rfl ?_
 conv=>whnf
 refine Both.mk ?_ ?_<;>intro b52
 obtain ⟨h,b52d⟩:=ctd b52 h
 conv=>whnf
 refine Side.mk rfl ?_
 conv=>whnf
 cases h
 conv=>whnf
 refine Side.mk ⟨rfl,trivial⟩ ?_
 conv=>whnf
 exact ⟨rfl,rfl⟩
 obtain ⟨h,b52d⟩:=cfd b52 h
 conv=>whnf
 obtain ⟨y56,hc,hk54⟩:=bind_some h
 clear h
 have h:=hc
 clear hc
 refine Cut.mk (mkSt [(1,.im (nI extra_)),(2,.im (.ref (zab m_))),(4,.own 64 1 0),(8,.own 65 1 0),(28,.im (nB y56))] [(64,.box 24 4),(65,.box 24 4)] [(64,0,.im (nI 0)),(64,1,.im (nI 0)),(64,2,.im (.val (.slice none 0 0))),(64,3,.im (.val (.slice none 0 0))),(65,0,.im (nI c51.1.Inputs)),(65,1,.im (nI c51.1.Start)),(65,2,.im (nL (cL cI) c51.1.Next)),(65,3,.im (nL (cL cI) c51.1.Out))]) (lZ c51.1.Next∧lZ c51.1.Out∧True) ((Holds.cel 65 2 rfl (by decide) rfl).and ((Holds.cel 65 3 rfl (by decide) rfl).and (hT))) ?_ (fun hp=>?_)
 conv=>whnf
 refine Both.mk ?_ ?_<;>intro b57
 replace b57:=beq_ff b57
 obtain ⟨h,b57d⟩:=cfd b57 h
 conv=>whnf
 refine Both.yes (ff_beq b57) ?_
 conv=>whnf
 refine Both.no b57 ?_
 conv=>whnf
 cases h
 exact Join.mk (eA [(64,some 4),(65,some 8)])
 replace b57:=beq_ft b57
 obtain ⟨h,b57d⟩:=ctd b57 h
 conv=>whnf
 refine Both.no (tf_beq b57) ?_
 conv=>whnf
 refine Both.yes b57 ?_
 conv=>whnf
 cases h
 exact Join.mk (eA [(64,some 4),(65,some 8)])
 replace h:=hk54
 obtain ⟨z58,z59,_⟩:=hp
 conv=>whnf
 refine Both.mk ?_ ?_<;>intro b60
 replace h:=cond_t b60 h
 conv=>whnf
 refine Side.mk rfl ?_
 conv=>whnf
 cases h
 conv=>whnf
 refine Side.mk ⟨rfl,trivial⟩ ?_
 conv=>whnf
 exact ⟨rfl,rfl⟩
 replace h:=cond_f b60 h
 conv=>whnf
 obtain ⟨c61,h⟩:=chk_some h
 refine Arith.mk c61 ?_
 conv=>whnf
 obtain ⟨c62,hc62,h⟩:=bind_some h
 refine ⟨_,(sp_R02_Upto m_.Inputs (extra_+1) c62 (fun _ _=>hc62)),?_⟩
 conv=>whnf
 refine Both.mk ?_ ?_<;>intro b63
 obtain ⟨h,b63d⟩:=ctd b63 h
 conv=>whnf
 refine Side.mk rfl ?_
 conv=>whnf
 cases h
 conv=>whnf
 refine Side.mk ⟨rfl,trivial⟩ ?_
 conv=>whnf
 exact ⟨rfl,rfl⟩
 obtain ⟨h,b63d⟩:=cfd b63 h
 conv=>whnf
 refine Side.mk rfl ?_
 conv=>whnf
 obtain ⟨c64,hc64,h⟩:=bind_some h
 refine ⟨_,(zil c51.1 c64 (fun _=>hc64)),?_⟩
 conv=>whnf
 refine Side.mk rfl ?_
 conv=>whnf
 refine Side.mk rfl ?_
 conv=>whnf
 cases h
 conv=>whnf
 refine Side.mk ⟨rfl,trivial⟩ ?_
 conv=>whnf
 exact ⟨rfl,rfl⟩
theorem zk9 (m_:zaa) (r:Bool) (h:Ok (.agg (zab m_))→zd6 m_=some r):Sp Tryz.prog 94 [.im (.agg (zab m_))] (.im (nB r)):=by
 refine sp_of rfl [700001] rfl rfl rfl (Nat.le_of_ble_eq_true rfl) rfl fun hk=>?_
 replace h:=h hk.1
 have z1:lZ m_.Next:=ok_len (Ok.agg_at hk.1 2 rfl)
 have z2:lZ m_.Out:=ok_len (Ok.agg_at hk.1 3 rfl)
 unfold zd6 at h
 conv=>whnf
 obtain ⟨c51,hc51,h⟩:=bind_some h
 refine ⟨_,(zh7 m_ c51 (fun _=>hc51)),?_⟩
 conv=>whnf
 refine Side.mk rfl ?_
 conv=>whnf
 obtain ⟨y55,hc,hk53⟩:=bind_some h
 clear h
 have h:=hc
 clear hc
 refine Cut.mk (mkSt [(2,.im (nB y55))] [] []) (True) (hT) ?_ (fun hp=>?_)
 conv=>whnf
 refine Both.mk ?_ ?_<;>intro b56
 replace b56:=beq_tt b56
 obtain ⟨h,b56d⟩:=ctd b56 h
 conv=>whnf
 refine Side.mk rfl ?_
 conv=>whnf
 refine Both.yes (tt_beq b56) ?_
 conv=>whnf
 refine Side.mk rfl ?_
 conv=>whnf
 refine Both.yes (tt_beq b56) ?_
 conv=>whnf
 refine Nf.mk (List.length c51.1.Next) len_map ?_
 conv=>whnf
 iterate 3 (refine Both.yes (tt_beq b56) ?_;(conv=>whnf))
 refine Nf.mk (List.length m_.Next) len_map ?_
 conv=>whnf
 refine Both.yes (tt_beq b56) ?_
 conv=>whnf
 refine Both.yes b56 ?_
 conv=>whnf
 cases h
 exact Join.mk (eA [])
 replace b56:=beq_tf b56
 obtain ⟨h,b56d⟩:=cfd b56 h
 conv=>whnf
 iterate 6 (refine Both.no (ft_beq b56) ?_;(conv=>whnf))
 refine Both.no b56 ?_
 conv=>whnf
 cases h
 exact Join.mk (eA [])
 replace h:=hk53
 conv=>whnf
 cases h
 conv=>whnf
 exact ⟨rfl,rfl⟩
theorem sp_R11_Check (m_:zaa) (r:Int) (h:Ok (.agg (zab m_))→zf9 m_=some r):Sp Tryz.prog 67 [.im (.agg (zab m_))] (.im (nI r)):=by
 refine sp_of rfl [700001] rfl rfl rfl (Nat.le_of_ble_eq_true rfl) rfl fun hk=>?_
 replace h:=h hk.1
 have z1:lZ m_.Next:=ok_len (Ok.agg_at hk.1 2 rfl)
 have z2:lZ m_.Out:=ok_len (Ok.agg_at hk.1 3 rfl)
 unfold zf9 at h
 conv=>whnf
 obtain ⟨c51,hc51,h⟩:=bind_some h
 refine ⟨_,(zda m_ c51 (fun _=>hc51)),?_⟩
 conv=>whnf
 refine Both.mk ?_ ?_<;>intro b52
 obtain ⟨h,b52d⟩:=ctd b52 h
 conv=>whnf
 cases h
 conv=>whnf
 exact ⟨rfl,rfl⟩
 obtain ⟨h,b52d⟩:=cfd b52 h
 conv=>whnf
 obtain ⟨c53,hc53,h⟩:=bind_some h
 refine ⟨_,(zk9 m_ c53 (fun _=>hc53)),?_⟩
 conv=>whnf
 refine Both.mk ?_ ?_<;>intro b54
 replace h:=cond_t b54 h
 conv=>whnf
 cases h
 conv=>whnf
 exact ⟨rfl,rfl⟩
 replace h:=cond_f b54 h
 conv=>whnf
 cases h
 conv=>whnf
 exact ⟨rfl,rfl⟩
theorem sp_R09_first (a_:zaa) (b_:zaa) (s_:Int) (t_:Int) (r:List Int×Bool) (h:Ok (.agg (zab a_))→Ok (.agg (zab b_))→Ok (nI s_)→Ok (nI t_)→zbc a_ b_ s_ t_=some r):Sp Tryz.prog 95 [.im (.agg (zab a_)),.im (.agg (zab b_)),.im (nI s_),.im (nI t_)] (.tup [nL cI r.1,nB r.2]):=by
 refine sp_of rfl [21,700004,700005] rfl rfl rfl (Nat.le_of_ble_eq_true rfl) rfl fun hk=>?_
 replace h:=h hk.1 hk.2.1 hk.2.2.1 hk.2.2.2.1
 have z1:lZ a_.Next:=ok_len (Ok.agg_at hk.1 2 rfl)
 have z2:lZ a_.Out:=ok_len (Ok.agg_at hk.1 3 rfl)
 have z3:lZ b_.Next:=ok_len (Ok.agg_at hk.2.1 2 rfl)
 have z4:lZ b_.Out:=ok_len (Ok.agg_at hk.2.1 3 rfl)
 unfold zbc at h
 conv=>whnf
 obtain ⟨oc,hc,hk51⟩:=bind_some h
 clear h
 have h:=hc
 clear hc
 refine Cut.mkS oc (Y:=Unit) (fun (_:Unit)=>mkSt [] [] []) (fun (_:Unit)=>True) (by rintro ⟨⟩;exact (hT)) ?_ ?_
 conv=>whnf
 refine Loops.iter (fun (s:List zai×Nat)=>zbc.s86 a_ b_ s.1 s.2) (fun (y1568,i1569)=>mkSt [(4,.im (.ref (zab a_))),(5,.im (.ref (zab b_))),(10,.osl 125 1),(11,.im (nI (↑i1569:Int)))] [(125,.row 158 3 (List.map zbm y1568))] []) (fun (y1568,i1569)=>lZ y1568∧True) h (eA [(125,some 21)]) (by rintro ⟨y1568,i1569⟩;exact ((Holds.kdl 125 rfl).and (hT))) ?_
 clear h
 rintro k ⟨y1568,i1569⟩ o hp h ho1950
 replace h:zbc.s86 a_ b_ y1568 i1569=some o:=h
 unfold zbc.s86 at h
 obtain ⟨z2331,_⟩:=hp
 conv=>whnf
 refine Side.mk rfl ?_
 conv=>whnf
 refine Nf.mk (List.length y1568) len_map ?_
 conv=>whnf
 refine Both.mk ?_ ?_<;>intro b1951
 obtain ⟨h,b1951d⟩:=ctd b1951 h
 conv=>whnf
 obtain ⟨oc,hc,hk1952⟩:=bind_some h
 clear h
 have h:=hc
 clear hc
 refine Cut.mkS oc (Y:=List zai) (fun y2141=>mkSt [(4,.im (.ref (zab a_))),(5,.im (.ref (zab b_))),(10,.osl 125 1),(11,.im (nI (↑i1569:Int)))] [(125,.row 158 3 (List.map zbm y2141))] []) (fun y2141=>lZ y2141∧True) (by rintro y2141;exact ((Holds.kdl 125 rfl).and (hT))) ?_ ?_
 conv=>whnf
 refine Loops.iter (fun (s:List zai×Nat)=>zbc.s85 a_ b_ i1569 s.1 s.2) (fun (y2202,x2203)=>mkSt [(4,.im (.ref (zab a_))),(5,.im (.ref (zab b_))),(10,.osl 125 1),(11,.im (nI (↑i1569:Int))),(12,.im (nI (↑x2203:Int)))] [(125,.row 158 3 (List.map zbm y2202))] []) (fun (y2202,x2203)=>lZ y2202∧True) h (eA [(125,some 125)]) (by rintro ⟨y2202,x2203⟩;exact ((Holds.kdl 125 rfl).and (hT))) ?_
 clear h
 rintro k ⟨y2202,x2203⟩ o hp h ho2266
 replace h:zbc.s85 a_ b_ i1569 y2202 x2203=some o:=h
 unfold zbc.s85 at h
 obtain ⟨z2329,_⟩:=hp
 conv=>whnf
 refine Both.mk ?_ ?_<;>intro b2267
 obtain ⟨h,b2267d⟩:=ctd b2267 h
 conv=>whnf
 obtain ⟨e2268,he2268,h⟩:=zac h
 refine Side.mk ⟨(by omega),rfl,map_lt he2268⟩ ?_
 conv=>whnf
 refine Side.mk rfl ?_
 conv=>whnf
 refine ⟨_,_,⟨rfl,map_at he2268,rfl,rfl⟩,?_⟩
 conv=>whnf
 obtain ⟨c2269,hc2269,h⟩:=bind_some h
 refine ⟨_,(zf3 e2268.Word (↑x2203:Int) c2269 (fun _ _=>hc2269)).im,?_⟩
 conv=>whnf
 obtain ⟨e2270,he2270,h⟩:=zac h
 refine Side.mk ⟨(by omega),rfl,map_lt he2270⟩ ?_
 conv=>whnf
 refine Side.mk rfl ?_
 conv=>whnf
 refine ⟨_,_,⟨rfl,map_at he2270,rfl,rfl⟩,?_⟩
 conv=>whnf
 obtain ⟨e2271,he2271z,he2271,h⟩:=idx_some h
 refine ⟨_,⟨he2271z,map_at he2271,rfl⟩,?_⟩
 conv=>whnf
 obtain ⟨e2272,he2272,h⟩:=zac h
 refine ⟨_,⟨(by omega),map_at he2272,rfl⟩,?_⟩
 conv=>whnf
 obtain ⟨e2273,he2273,h⟩:=zac h
 refine Side.mk ⟨(by omega),rfl,map_lt he2273⟩ ?_
 conv=>whnf
 refine Side.mk rfl ?_
 conv=>whnf
 refine ⟨_,_,⟨rfl,map_at he2273,rfl,rfl⟩,?_⟩
 conv=>whnf
 obtain ⟨e2274,he2274z,he2274,h⟩:=idx_some h
 refine ⟨_,⟨he2274z,map_at he2274,rfl⟩,?_⟩
 conv=>whnf
 obtain ⟨e2275,he2275,h⟩:=zac h
 refine ⟨_,⟨(by omega),map_at he2275,rfl⟩,?_⟩
 conv=>whnf
 refine Both.mk ?_ ?_<;>intro b2276
 obtain ⟨h,b2276d⟩:=ctd b2276 h
 conv=>whnf
 cases h
 have ho2266:_=_:=ho2266
 cases ho2266
 replace h:some _=some _:=hk1952
 cases h
 have ho1950:_=_:=ho1950
 cases ho1950
 replace h:some _=some _:=hk51
 cases h
 conv=>whnf
 exact ⟨rfl,rfl⟩
 obtain ⟨h,b2276d⟩:=cfd b2276 h
 conv=>whnf
 obtain ⟨e2277,he2277,h⟩:=zac h
 refine Side.mk ⟨(by omega),rfl,map_lt he2277⟩ ?_
 conv=>whnf
 refine Side.mk rfl ?_
 conv=>whnf
 refine ⟨_,_,⟨rfl,map_at he2277,rfl,rfl⟩,?_⟩
 conv=>whnf
 obtain ⟨e2278,he2278z,he2278,h⟩:=idx_some h
 refine ⟨_,⟨he2278z,map_at he2278,rfl⟩,?_⟩
 conv=>whnf
 obtain ⟨e2279,he2279,h⟩:=zac h
 refine ⟨_,⟨(by omega),map_at he2279,rfl⟩,?_⟩
 conv=>whnf
 obtain ⟨e2280,he2280,h⟩:=zac h
 refine Side.mk ⟨(by omega),rfl,map_lt he2280⟩ ?_
 conv=>whnf
 refine Side.mk rfl ?_
 conv=>whnf
 refine ⟨_,_,⟨rfl,map_at he2280,rfl,rfl⟩,?_⟩
 conv=>whnf
 obtain ⟨e2281,he2281z,he2281,h⟩:=idx_some h
 refine ⟨_,⟨he2281z,map_at he2281,rfl⟩,?_⟩
 conv=>whnf
 obtain ⟨e2282,he2282,h⟩:=zac h
 refine ⟨_,⟨(by omega),map_at he2282,rfl⟩,?_⟩
 conv=>whnf
 obtain ⟨known2303,hc,hk2283⟩:=bind_some h
 clear h
 have h:=hc
 clear hc
 refine Cut.mk (mkSt [(4,.im (.ref (zab a_))),(5,.im (.ref (zab b_))),(10,.osl 125 1),(11,.im (nI (↑i1569:Int))),(12,.im (nI (↑x2203:Int))),(13,.im (nL cI c2269)),(14,.im (nI e2279)),(15,.im (nI e2282)),(16,.im (nB known2303))] [(125,.row 158 3 (List.map zbm y2202))] []) (lZ c2269∧lZ y2202∧True) ((Holds.avl 13 rfl).and ((Holds.kdl 125 rfl).and (hT))) ?_ (fun hp=>?_)
 conv=>whnf
 refine Loops.iter (fun (s:Bool×Nat)=>zbc.s84 y2202 e2279 e2282 s.1 s.2) (fun (known2308,k2309)=>mkSt [(4,.im (.ref (zab a_))),(5,.im (.ref (zab b_))),(10,.osl 125 1),(11,.im (nI (↑i1569:Int))),(12,.im (nI (↑x2203:Int))),(13,.im (nL cI c2269)),(14,.im (nI e2279)),(15,.im (nI e2282)),(16,.im (nB known2308)),(17,.im (nI (↑k2309:Int)))] [(125,.row 158 3 (List.map zbm y2202))] []) (fun (known2308,k2309)=>lZ c2269∧lZ y2202∧True) h (eA [(125,some 125)]) (by rintro ⟨known2308,k2309⟩;exact ((Holds.avl 13 rfl).and ((Holds.kdl 125 rfl).and (hT)))) ?_
 clear h
 rintro k ⟨known2308,k2309⟩ o hp h ho2315
 replace h:zbc.s84 y2202 e2279 e2282 known2308 k2309=some o:=h
 unfold zbc.s84 at h
 obtain ⟨z2321,z2322,_⟩:=hp
 conv=>whnf
 refine Side.mk rfl ?_
 conv=>whnf
 refine Nf.mk (List.length y2202) len_map ?_
 conv=>whnf
 refine Both.mk ?_ ?_<;>intro b2316
 obtain ⟨h,b2316d⟩:=ctd b2316 h
 conv=>whnf
 refine Both.mk ?_ ?_<;>intro b2317
 replace b2317:=beq_ff b2317
 replace h:=cond_f b2317 h
 conv=>whnf
 iterate 2 (refine Both.yes (ff_beq b2317) ?_;(conv=>whnf))
 obtain ⟨e2318,he2318,h⟩:=zac h
 refine Side.mk ⟨(by omega),rfl,map_lt he2318⟩ ?_
 conv=>whnf
 refine Both.yes (ff_beq b2317) ?_
 conv=>whnf
 refine Side.mk rfl ?_
 conv=>whnf
 refine Both.yes (ff_beq b2317) ?_
 conv=>whnf
 refine ⟨_,_,⟨rfl,map_at he2318,rfl,rfl⟩,?_⟩
 conv=>whnf
 iterate 3 (refine Both.yes (ff_beq b2317) ?_;(conv=>whnf))
 refine Both.mk ?_ ?_<;>intro b2319
 replace b2319:=beq_tt b2319
 obtain ⟨h,b2319d⟩:=ctd b2319 h
 conv=>whnf
 iterate 2 (refine Both.yes (tt_beq b2319) ?_;(conv=>whnf))
 obtain ⟨e2320,he2320,h⟩:=zac h
 refine Side.mk ⟨(by omega),rfl,map_lt he2320⟩ ?_
 conv=>whnf
 refine Both.yes (tt_beq b2319) ?_
 conv=>whnf
 refine Side.mk rfl ?_
 conv=>whnf
 refine Both.yes (tt_beq b2319) ?_
 conv=>whnf
 refine ⟨_,_,⟨rfl,map_at he2320,rfl,rfl⟩,?_⟩
 conv=>whnf
 iterate 2 (refine Both.yes (tt_beq b2319) ?_;(conv=>whnf))
 refine Both.yes (ff_beq b2317) ?_
 conv=>whnf
 refine Both.yes b2319 ?_
 conv=>whnf
 refine Both.no b2317 ?_
 conv=>whnf
 refine Arith.mk (by show inR _;unfold inR;omega) ?_
 conv=>whnf
 cases h
 exact Nxt.mk _ ho2315 (eA [(125,some 125)])
 replace b2319:=beq_tf b2319
 obtain ⟨h,b2319d⟩:=cfd b2319 h
 conv=>whnf
 iterate 6 (refine Both.no (ft_beq b2319) ?_;(conv=>whnf))
 refine Both.yes (ff_beq b2317) ?_
 conv=>whnf
 refine Both.no b2319 ?_
 conv=>whnf
 refine Both.no b2317 ?_
 conv=>whnf
 refine Arith.mk (by show inR _;unfold inR;omega) ?_
 conv=>whnf
 cases h
 exact Nxt.mk _ ho2315 (eA [(125,some 125)])
 replace b2317:=beq_ft b2317
 replace h:=cond_t b2317 h
 conv=>whnf
 iterate 8 (refine Both.no (tf_beq b2317) ?_;(conv=>whnf))
 refine Both.yes b2317 ?_
 conv=>whnf
 refine Arith.mk (by show inR _;unfold inR;omega) ?_
 conv=>whnf
 cases h
 exact Nxt.mk _ ho2315 (eA [(125,some 125)])
 obtain ⟨h,b2316d⟩:=cfd b2316 h
 conv=>whnf
 cases h
 have ho2315:_=_:=ho2315
 cases ho2315
 exact Join.mk (eA [(125,some 125)])
 replace h:=hk2283
 obtain ⟨z2323,z2324,_⟩:=hp
 conv=>whnf
 refine Both.mk ?_ ?_<;>intro b2325
 replace h:=cond_t b2325 h
 conv=>whnf
 obtain ⟨c2326,h⟩:=chk_some h
 refine Side.mk ⟨rfl,map_len (l:=[(⟨e2279,e2282,c2269⟩:zai)]) (c:=zbm) fun _=>rfl,show capOk _ 40 by simpa only [List.length_map,List.length_cons,List.length_nil,Nat.zero_add] using c2326⟩ ?_
 conv=>whnf
 refine Nf.mk (List.map zbm (y2202++[(⟨e2279,e2282,c2269⟩:zai)])) (app_map (l:=y2202) (m:=[(⟨e2279,e2282,c2269⟩:zai)]) (c:=zbm)) ?_
 conv=>whnf
 obtain ⟨c2327,h⟩:=chk_some h
 refine Arith.mk c2327 ?_
 conv=>whnf
 cases h
 exact Nxt.mk _ ho2266 (eA [(125,some 125)])
 replace h:=cond_f b2325 h
 conv=>whnf
 obtain ⟨c2328,h⟩:=chk_some h
 refine Arith.mk c2328 ?_
 conv=>whnf
 cases h
 exact Nxt.mk _ ho2266 (eA [(125,some 125)])
 obtain ⟨h,b2267d⟩:=cfd b2267 h
 conv=>whnf
 cases h
 have ho2266:_=_:=ho2266
 cases ho2266
 exact JoinS.mk' _ rfl (eA [(125,some 125)])
 rintro y2141 rfl hp
 replace h:=sum_inl hk1952
 obtain ⟨z2330,_⟩:=hp
 conv=>whnf
 refine Arith.mk (by show inR _;unfold inR;omega) ?_
 conv=>whnf
 cases h
 exact Nxt.mk _ ho1950 (eA [(125,some 125)])
 obtain ⟨h,b1951d⟩:=cfd b1951 h
 conv=>whnf
 cases h
 have ho1950:_=_:=ho1950
 cases ho1950
 exact JoinS.mk' _ rfl (eA [])
 rintro ⟨⟩ rfl hp
 replace h:=sum_inl hk51
 conv=>whnf
 cases h
 conv=>whnf
 exact ⟨rfl,rfl⟩
theorem sp_R09_States (m_:zaa) (s_:Int) (t_:Int) (r:List Int×Bool×Int) (h:Ok (.agg (zab m_))→Ok (nI s_)→Ok (nI t_)→zer m_ s_ t_=some r):Sp Tryz.prog 68 [.im (.agg (zab m_)),.im (nI s_),.im (nI t_)] (.tup [nL cI r.1,nB r.2.1,nI r.2.2]):=by
 refine sp_of rfl [700003] rfl rfl rfl (Nat.le_of_ble_eq_true rfl) rfl fun hk=>?_
 replace h:=h hk.1 hk.2.1 hk.2.2.1
 have z1:lZ m_.Next:=ok_len (Ok.agg_at hk.1 2 rfl)
 have z2:lZ m_.Out:=ok_len (Ok.agg_at hk.1 3 rfl)
 unfold zer at h
 conv=>whnf
 obtain ⟨c51,hc51,h⟩:=bind_some h
 refine ⟨_,(zda m_ c51 (fun _=>hc51)),?_⟩
 conv=>whnf
 refine Both.mk ?_ ?_<;>intro b52
 obtain ⟨h,b52d⟩:=ctd b52 h
 conv=>whnf
 cases h
 conv=>whnf
 exact ⟨rfl,rfl⟩
 obtain ⟨h,b52d⟩:=cfd b52 h
 conv=>whnf
 obtain ⟨y58,hc,hk54⟩:=bind_some h
 clear h
 have h:=hc
 clear hc
 refine Cut.mk (mkSt [(1,.im (nI s_)),(2,.im (nI t_)),(3,.im (.ref (zab m_))),(36,.im (nB y58))] [] []) (True) (hT) ?_ (fun hp=>?_)
 conv=>whnf
 refine Both.mk ?_ ?_<;>intro b59
 replace b59:=beq_ff b59
 obtain ⟨h,b59d⟩:=cfd b59 h
 conv=>whnf
 iterate 3 (refine Both.yes (ff_beq b59) ?_;(conv=>whnf))
 refine Nf.mk (List.length m_.Next) len_map ?_
 conv=>whnf
 refine Both.yes (ff_beq b59) ?_
 conv=>whnf
 refine Both.no b59 ?_
 conv=>whnf
 refine Both.mk ?_ ?_<;>intro b60
 replace b60:=beq_ff b60
 obtain ⟨h,b60d⟩:=cfd b60 h
 conv=>whnf
 refine Both.yes (ff_beq b60) ?_
 conv=>whnf
 refine Both.no b60 ?_
 conv=>whnf
 refine Both.mk ?_ ?_<;>intro b61
 replace b61:=beq_ff b61
 obtain ⟨h,b61d⟩:=cfd b61 h
 conv=>whnf
 iterate 3 (refine Both.yes (ff_beq b61) ?_;(conv=>whnf))
 refine Nf.mk (List.length m_.Next) len_map ?_
 conv=>whnf
 refine Both.yes (ff_beq b61) ?_
 conv=>whnf
 refine Both.no b61 ?_
 conv=>whnf
 cases h
 exact Join.mk (eA [])
 replace b61:=beq_ft b61
 obtain ⟨h,b61d⟩:=ctd b61 h
 conv=>whnf
 iterate 4 (refine Both.no (tf_beq b61) ?_;(conv=>whnf))
 refine Both.yes b61 ?_
 conv=>whnf
 cases h
 exact Join.mk (eA [])
 replace b60:=beq_ft b60
 obtain ⟨h,b60d⟩:=ctd b60 h
 conv=>whnf
 refine Both.no (tf_beq b60) ?_
 conv=>whnf
 refine Both.yes b60 ?_
 conv=>whnf
 iterate 5 (refine Both.no rfl ?_;(conv=>whnf))
 refine Both.yes rfl ?_
 conv=>whnf
 cases h
 exact Join.mk (eA [])
 replace b59:=beq_ft b59
 obtain ⟨h,b59d⟩:=ctd b59 h
 conv=>whnf
 iterate 4 (refine Both.no (tf_beq b59) ?_;(conv=>whnf))
 refine Both.yes b59 ?_
 conv=>whnf
 iterate 2 (refine Both.no rfl ?_;(conv=>whnf))
 refine Both.yes rfl ?_
 conv=>whnf
 iterate 5 (refine Both.no rfl ?_;(conv=>whnf))
 refine Both.yes rfl ?_
 conv=>whnf
 cases h
 exact Join.mk (eA [])
 replace h:=hk54
 conv=>whnf
 refine Both.mk ?_ ?_<;>intro b62
 replace h:=cond_t b62 h
 conv=>whnf
 cases h
 conv=>whnf
 exact ⟨rfl,rfl⟩
 replace h:=cond_f b62 h
 conv=>whnf
 obtain ⟨c63,hc63,h⟩:=bind_some h
 refine ⟨_,(sp_R09_first m_ m_ s_ t_ c63 (fun _ _ _ _=>hc63)),?_⟩
 conv=>whnf
 cases h
 conv=>whnf
 exact ⟨rfl,rfl⟩
theorem zhk (m_:zaa) (r:List (List (List Int))×Int) (h:Ok (.agg (zab m_))→zax m_=some r):Sp Tryz.prog 40 [.im (.agg (zab m_))] (.tup [nL (cL (cL cI)) r.1,nI r.2]):=by
 refine sp_of rfl [700001] rfl rfl rfl (Nat.le_of_ble_eq_true rfl) rfl fun hk=>?_
 replace h:=h hk.1
 have z1:lZ m_.Next:=ok_len (Ok.agg_at hk.1 2 rfl)
 have z2:lZ m_.Out:=ok_len (Ok.agg_at hk.1 3 rfl)
 unfold zax at h
 conv=>whnf
 obtain ⟨c51,hc51,h⟩:=bind_some h
 refine ⟨_,(sp_R11_Check m_ c51 (fun _=>hc51)),?_⟩
 conv=>whnf
 refine Both.mk ?_ ?_<;>intro b52
 obtain ⟨h,b52d⟩:=ctd b52 h
 conv=>whnf
 cases h
 conv=>whnf
 exact ⟨rfl,rfl⟩
 obtain ⟨h,b52d⟩:=cfd b52 h
 conv=>whnf
 obtain ⟨y169,hc,hk53⟩:=bind_some h
 clear h
 have h:=hc
 clear hc
 refine Cut.mk (mkSt [(5,.osl 64 1)] [(64,.row 22 1 (List.map (cL (cL cI)) y169))] []) (lZ y169∧True) ((Holds.kdl 64 rfl).and (hT)) ?_ (fun hp=>?_)
 conv=>whnf
 refine Loops.iter (fun (s:List (List (List Int))×Nat)=>zax.s14 m_ s.1 s.2) (fun (y203,s204)=>mkSt [(1,.im (.ref (zab m_))),(5,.osl 64 1),(6,.im (nI (↑s204:Int)))] [(64,.row 22 1 (List.map (cL (cL cI)) y203))] []) (fun (y203,s204)=>lZ y203∧True) h (eA [(64,none)]) (by rintro ⟨y203,s204⟩;exact ((Holds.kdl 64 rfl).and (hT))) ?_
 clear h
 rintro k ⟨y203,s204⟩ o hp h ho244
 replace h:zax.s14 m_ y203 s204=some o:=h
 unfold zax.s14 at h
 obtain ⟨z284,_⟩:=hp
 conv=>whnf
 refine Nf.mk (List.length m_.Next) len_map ?_
 conv=>whnf
 refine Both.mk ?_ ?_<;>intro b245
 obtain ⟨h,b245d⟩:=ctd b245 h
 conv=>whnf
 obtain ⟨y263,hc,hk246⟩:=bind_some h
 clear h
 have h:=hc
 clear hc
 refine Cut.mk (mkSt [(1,.im (.ref (zab m_))),(5,.osl 64 1),(6,.im (nI (↑s204:Int))),(7,.osl 65 1)] [(64,.row 22 1 (List.map (cL (cL cI)) y203)),(65,.row 47 1 (List.map (cL cI) y263))] []) (lZ y203∧lZ y263∧True) ((Holds.kdl 64 rfl).and ((Holds.kdl 65 rfl).and (hT))) ?_ (fun hp=>?_)
 conv=>whnf
 refine Loops.iter (fun (s:List (List Int)×Nat)=>zax.s13 m_ s204 s.1 s.2) (fun (y267,t268)=>mkSt [(1,.im (.ref (zab m_))),(5,.osl 64 1),(6,.im (nI (↑s204:Int))),(7,.osl 65 1),(8,.im (nI (↑t268:Int)))] [(64,.row 22 1 (List.map (cL (cL cI)) y203)),(65,.row 47 1 (List.map (cL cI) y267))] []) (fun (y267,t268)=>lZ y203∧lZ y267∧True) h (eA [(64,some 64),(65,none)]) (by rintro ⟨y267,t268⟩;exact ((Holds.kdl 64 rfl).and ((Holds.kdl 65 rfl).and (hT)))) ?_
 clear h
 rintro k ⟨y267,t268⟩ o hp h ho273
 replace h:zax.s13 m_ s204 y267 t268=some o:=h
 unfold zax.s13 at h
 obtain ⟨z278,z279,_⟩:=hp
 conv=>whnf
 refine Nf.mk (List.length m_.Next) len_map ?_
 conv=>whnf
 refine Both.mk ?_ ?_<;>intro b274
 obtain ⟨h,b274d⟩:=ctd b274 h
 conv=>whnf
 refine Both.mk ?_ ?_<;>intro b275
 obtain ⟨h,b275d⟩:=ctd b275 h
 conv=>whnf
 obtain ⟨c276,hc276,h⟩:=bind_some h
 refine ⟨_,(sp_R09_States m_ (↑s204:Int) (↑t268:Int) c276 (fun _ _ _=>hc276)),?_⟩
 conv=>whnf
 obtain ⟨c277,h⟩:=chk_some h
 refine Side.mk ⟨rfl,map_len (l:=[c276.1]) (c:=cL cI) fun _=>rfl,show capOk _ 24 by simpa only [List.length_map,List.length_cons,List.length_nil,Nat.zero_add] using c277⟩ ?_
 conv=>whnf
 refine Nf.mk (List.map (cL cI) (y267++[c276.1])) (app_map (l:=y267) (m:=[c276.1]) (c:=cL cI)) ?_
 conv=>whnf
 refine Arith.mk (by show inR _;unfold inR;omega) ?_
 conv=>whnf
 cases h
 exact Nxt.mk _ ho273 (eA [(64,some 64),(65,some 65)])
 obtain ⟨h,b275d⟩:=cfd b275 h
 conv=>whnf
 refine Arith.mk (by show inR _;unfold inR;omega) ?_
 conv=>whnf
 cases h
 exact Nxt.mk _ ho273 (eA [(64,some 64),(65,some 65)])
 obtain ⟨h,b274d⟩:=cfd b274 h
 conv=>whnf
 cases h
 have ho273:_=_:=ho273
 cases ho273
 exact Join.mk (eA [(64,some 64),(65,some 65)])
 replace h:=hk246
 obtain ⟨z280,z281,_⟩:=hp
 conv=>whnf
 refine Side.mk ⟨rfl,trivial⟩ ?_
 conv=>whnf
 obtain ⟨c282,hc282,h⟩:=bind_some h
 refine ⟨_,(zho y263 c282 (fun _=>hc282)).im,?_⟩
 conv=>whnf
 obtain ⟨c283,h⟩:=chk_some h
 refine Side.mk ⟨rfl,map_len (l:=[c282]) (c:=cL (cL cI)) fun _=>rfl,show capOk _ 24 by simpa only [List.length_map,List.length_cons,List.length_nil,Nat.zero_add] using c283⟩ ?_
 conv=>whnf
 refine Nf.mk (List.map (cL (cL cI)) (y203++[c282])) (app_map (l:=y203) (m:=[c282]) (c:=cL (cL cI))) ?_
 conv=>whnf
 refine Arith.mk (by show inR _;unfold inR;omega) ?_
 conv=>whnf
 cases h
 exact Nxt.mk _ ho244 (eA [(64,some 64)])
 obtain ⟨h,b245d⟩:=cfd b245 h
 conv=>whnf
 cases h
 have ho244:_=_:=ho244
 cases ho244
 exact Join.mk (eA [(64,some 64)])
 replace h:=hk53
 obtain ⟨z285,_⟩:=hp
 conv=>whnf
 cases h
 conv=>whnf
 exact Side.mk ⟨rfl,trivial⟩ ⟨rfl,rfl⟩
theorem sp_R30_Suite (m_:zaa) (extra_:Int) (r:List (List Int)×Int) (h:Ok (.agg (zab m_))→Ok (nI extra_)→zcx m_ extra_=some r):Sp Tryz.prog 18 [.im (.agg (zab m_)),.im (nI extra_)] (.tup [nL (cL cI) r.1,nI r.2]):=by
 refine sp_of rfl [700002] rfl rfl rfl (Nat.le_of_ble_eq_true rfl) rfl fun hk=>?_
 replace h:=h hk.1 hk.2.1
 have z1:lZ m_.Next:=ok_len (Ok.agg_at hk.1 2 rfl)
 have z2:lZ m_.Out:=ok_len (Ok.agg_at hk.1 3 rfl)
 unfold zcx at h
 conv=>whnf
 obtain ⟨c51,hc51,h⟩:=bind_some h
 refine ⟨_,(sp_R29_Parts m_ extra_ c51 (fun _ _=>hc51)),?_⟩
 conv=>whnf
 refine Side.mk rfl ?_
 conv=>whnf
 refine Both.mk ?_ ?_<;>intro b52
 obtain ⟨h,b52d⟩:=ctd b52 h
 conv=>whnf
 cases h
 conv=>whnf
 exact ⟨rfl,rfl⟩
 obtain ⟨h,b52d⟩:=cfd b52 h
 conv=>whnf
 refine Side.mk rfl ?_
 conv=>whnf
 obtain ⟨c53,hc53,h⟩:=bind_some h
 refine ⟨_,(zhk c51.1 c53 (fun _=>hc53)),?_⟩
 conv=>whnf
 refine Side.mk rfl ?_
 conv=>whnf
 obtain ⟨c54,hc54,h⟩:=bind_some h
 refine ⟨_,(sp_R30_Made c51.1 c51.2.1 c51.2.2.1 c53.1 c54 (fun _ _ _ _=>hc54)),?_⟩
 conv=>whnf
 cases h
 conv=>whnf
 exact ⟨rfl,rfl⟩
theorem zlo (m_:zaa) (extra_:Int) (r:zbh×Int) (h:Ok (.agg (zab m_))→Ok (nI extra_)→R50_New m_ extra_=some r):Sp Tryz.prog 8 [.im (.agg (zab m_)),.im (nI extra_)] (.tup [.agg (zgq r.1),nI r.2]):=by
 refine sp_of rfl [700002] rfl rfl rfl (Nat.le_of_ble_eq_true rfl) rfl fun hk=>?_
 replace h:=h hk.1 hk.2.1
 have z1:lZ m_.Next:=ok_len (Ok.agg_at hk.1 2 rfl)
 have z2:lZ m_.Out:=ok_len (Ok.agg_at hk.1 3 rfl)
 unfold R50_New at h
 conv=>whnf
 obtain ⟨c51,hc51,h⟩:=bind_some h
 refine ⟨_,(sp_R30_Suite m_ extra_ c51 (fun _ _=>hc51)),?_⟩
 conv=>whnf
 refine Both.mk ?_ ?_<;>intro b52
 obtain ⟨h,b52d⟩:=ctd b52 h
 conv=>whnf
 refine Side.mk rfl ?_
 conv=>whnf
 cases h
 conv=>whnf
 refine Side.mk ⟨rfl,trivial⟩ ?_
 conv=>whnf
 exact ⟨rfl,rfl⟩
 obtain ⟨h,b52d⟩:=cfd b52 h
 conv=>whnf
 obtain ⟨c53,hc53,h⟩:=bind_some h
 refine ⟨_,(zh7 m_ c53 (fun _=>hc53)),?_⟩
 conv=>whnf
 refine Side.mk rfl ?_
 conv=>whnf
 refine Both.mk ?_ ?_<;>intro b54
 obtain ⟨h,b54d⟩:=ctd b54 h
 conv=>whnf
 refine Side.mk rfl ?_
 conv=>whnf
 cases h
 conv=>whnf
 refine Side.mk ⟨rfl,trivial⟩ ?_
 conv=>whnf
 exact ⟨rfl,rfl⟩
 obtain ⟨h,b54d⟩:=cfd b54 h
 conv=>whnf
 refine Side.mk rfl ?_
 conv=>whnf
 refine Side.mk rfl ?_
 conv=>whnf
 cases h
 conv=>whnf
 refine Side.mk ⟨rfl,trivial⟩ ?_
 conv=>whnf
 exact ⟨rfl,rfl⟩
theorem sp_R50_known (r_:zaf) (w_:List Int) (r:Bool) (h:Ok (.agg (zca r_))→Ok (nL cI w_)→zcf r_ w_=some r):Sp Tryz.prog 25 [.im (.agg (zca r_)),.im (nL cI w_)] (.im (nB r)):=by
 refine sp_of rfl [700002] rfl rfl rfl (Nat.le_of_ble_eq_true rfl) rfl fun hk=>?_
 replace h:=h hk.1 hk.2.1
 have z1:lZ r_.Changes:=ok_len (Ok.agg_at hk.1 1 rfl)
 have z2:lZ w_:=ok_len hk.2.1
 unfold zcf at h
 conv=>whnf
 obtain ⟨oc,hc,hk51⟩:=bind_some h
 clear h
 have h:=hc
 clear hc
 refine Cut.mkS oc (Y:=Unit) (fun (_:Unit)=>mkSt [] [] []) (fun (_:Unit)=>True) (by rintro ⟨⟩;exact (hT)) ?_ ?_
 conv=>whnf
 refine Loops.iter (fun (s:Nat)=>zcf.s2 r_ w_ s) (fun i71=>mkSt [(1,.im (nL cI w_)),(2,.im (.ref (zca r_))),(5,.im (nI (↑i71:Int)))] [] []) (fun i71=>lZ w_∧True) h (eA []) (by rintro i71;exact ((Holds.avl 1 rfl).and (hT))) ?_
 clear h
 rintro k i71 o hp h ho76
 replace h:zcf.s2 r_ w_ i71=some o:=h
 unfold zcf.s2 at h
 obtain ⟨z81,_⟩:=hp
 conv=>whnf
 refine Nf.mk (List.length r_.Changes) len_map ?_
 conv=>whnf
 refine Both.mk ?_ ?_<;>intro b77
 obtain ⟨h,b77d⟩:=ctd b77 h
 conv=>whnf
 obtain ⟨e78,he78,h⟩:=zac h
 refine ⟨_,⟨(by omega),map_at he78,rfl⟩,?_⟩
 conv=>whnf
 obtain ⟨c79,hc79,h⟩:=bind_some h
 refine ⟨_,(zfh w_ e78.In c79 (fun _ _=>hc79)),?_⟩
 conv=>whnf
 refine Both.mk ?_ ?_<;>intro b80
 replace h:=cond_t b80 h
 conv=>whnf
 cases h
 have ho76:_=_:=ho76
 cases ho76
 replace h:some _=some _:=hk51
 cases h
 conv=>whnf
 exact ⟨rfl,rfl⟩
 replace h:=cond_f b80 h
 conv=>whnf
 refine Arith.mk (by show inR _;unfold inR;omega) ?_
 conv=>whnf
 cases h
 exact Nxt.mk _ ho76 (eA [])
 obtain ⟨h,b77d⟩:=cfd b77 h
 conv=>whnf
 cases h
 have ho76:_=_:=ho76
 cases ho76
 exact JoinS.mk' _ rfl (eA [])
 rintro ⟨⟩ rfl hp
 replace h:=sum_inl hk51
 conv=>whnf
 cases h
 conv=>whnf
 exact ⟨rfl,rfl⟩
theorem zjm (parts_:List (List Int)) (r:List Int) (h:Ok (nL (cL cI) parts_)→R01_Join parts_=some r):Sp Tryz.prog 52 [.im (nL (cL cI) parts_)] (.row 3 1 (List.map cI r)):=by
 refine sp_of rfl [] rfl rfl rfl (Nat.le_of_ble_eq_true rfl) rfl fun hk=>?_
 replace h:=h hk.1
 have z1:lZ parts_:=ok_len hk.1
 unfold R01_Join at h
 conv=>whnf
 obtain ⟨y66,hc,hk51⟩:=bind_some h
 clear h
 have h:=hc
 clear hc
 refine Cut.mk (mkSt [(3,.osl 64 1)] [(64,.row 3 1 (List.map cI y66))] []) (lZ y66∧True) ((Holds.kdl 64 rfl).and (hT)) ?_ (fun hp=>?_)
 conv=>whnf
 refine Loops.iter (fun (s:List Int×Nat)=>R01_Join.s2 parts_ s.1 s.2) (fun (y70,i71)=>mkSt [(0,.im (nL (cL cI) parts_)),(3,.osl 64 1),(4,.im (nI (↑i71:Int)))] [(64,.row 3 1 (List.map cI y70))] []) (fun (y70,i71)=>lZ parts_∧lZ y70∧True) h (eA [(64,none)]) (by rintro ⟨y70,i71⟩;exact ((Holds.avl 0 rfl).and ((Holds.kdl 64 rfl).and (hT)))) ?_
 clear h
 rintro k ⟨y70,i71⟩ o hp h ho75
 replace h:R01_Join.s2 parts_ y70 i71=some o:=h
 unfold R01_Join.s2 at h
 obtain ⟨z79,z80,_⟩:=hp
 conv=>whnf
 refine Nf.mk (List.length parts_) len_map ?_
 conv=>whnf
 refine Both.mk ?_ ?_<;>intro b76
 obtain ⟨h,b76d⟩:=ctd b76 h
 conv=>whnf
 obtain ⟨e77,he77,h⟩:=zac h
 refine ⟨_,⟨(by omega),map_at he77,rfl⟩,?_⟩
 conv=>whnf
 obtain ⟨c78,h⟩:=chk_some h
 refine Side.mk ⟨rfl,map_len (l:=e77) (c:=cI) fun _=>rfl,show capOk _ 8 by simpa only [List.length_map,List.length_cons,List.length_nil,Nat.zero_add] using c78⟩ ?_
 conv=>whnf
 refine Nf.mk (List.map cI (y70++e77)) (app_map (l:=y70) (m:=e77) (c:=cI)) ?_
 conv=>whnf
 refine Arith.mk (by show inR _;unfold inR;omega) ?_
 conv=>whnf
 cases h
 exact Nxt.mk _ ho75 (eA [(64,some 64)])
 obtain ⟨h,b76d⟩:=cfd b76 h
 conv=>whnf
 cases h
 have ho75:_=_:=ho75
 cases ho75
 exact Join.mk (eA [(64,some 64)])
 replace h:=hk51
 obtain ⟨z81,_⟩:=hp
 conv=>whnf
 cases h
 conv=>whnf
 exact Side.mk ⟨rfl,trivial⟩ ⟨rfl,rfl⟩
theorem sp_R50_with (r_:zaf) (m_:zaa) (w_:List Int) (out_:List Int) (r:zaf) (h:Ok (nI r_.Run)→OkL (List.map zak r_.Changes)→Ok (.agg (zab m_))→Ok (nL cI w_)→Ok (nL cI out_)→R50_with r_ m_ w_ out_=some r):SpX Tryz.prog 27 (.lent .dead::.box 1 [.im .any,.im .any]::[.im (nI r_.Run),.row 50 2 (List.map zak r_.Changes),.im (.agg (zab m_)),.im (nL cI w_),.im (nL cI out_)]) (.mk true [.im (nI r.Run),.ow (.row 50 2 (List.map zak r.Changes))] []):=by
 refine sp_ofA rfl [700005] 1 [.im .any,.im .any] 3 rfl rfl rfl rfl (Nat.le_of_ble_eq_true rfl) (Nat.le_of_ble_eq_true rfl) rfl fun hk=>?_
 replace h:=h hk.1 hk.2.1 hk.2.2.1 hk.2.2.2.1 hk.2.2.2.2.1
 have z1:lZ r_.Changes:=okl_len hk.2.1
 have z2:lZ m_.Next:=ok_len (Ok.agg_at hk.2.2.1 2 rfl)
 have z3:lZ m_.Out:=ok_len (Ok.agg_at hk.2.2.1 3 rfl)
 have z4:lZ w_:=ok_len hk.2.2.2.1
 have z5:lZ out_:=ok_len hk.2.2.2.2.1
 unfold R50_with at h
 conv=>whnf
 refine Side.mk rfl ?_
 conv=>whnf
 refine Side.mk rfl ?_
 conv=>whnf
 obtain ⟨c51,h⟩:=chk_some h
 refine Arith.mk c51 ?_
 conv=>whnf
 refine Side.mk rfl ?_
 conv=>whnf
 refine Side.mk rfl ?_
 conv=>whnf
 obtain ⟨c52,hc52,h⟩:=bind_some h
 refine ⟨_,(zgu m_ m_.Start w_ c52 (fun _ _ _=>hc52)),?_⟩
 conv=>whnf
 obtain ⟨c53,hc53,h⟩:=bind_some h
 refine ⟨_,(zd0 c52.1 out_ c53 (fun _ _=>hc53)),?_⟩
 conv=>whnf
 obtain ⟨y64,hc,hk55⟩:=bind_some h
 clear h
 have h:=hc
 clear hc
 refine Cut.mk (mkSt [(4,.own 64 1 0),(8,.own 66 1 0)] [(64,.box 37 2),(65,.row 50 2 (List.map zak y64)),(66,.box 37 2)] [(64,0,.im (nI (r_.Run+1))),(64,1,.osl 65 1),(66,0,.im (nI 0)),(66,1,.im (.val (.slice none 0 0)))]) (lZ y64∧True) ((Holds.kdl 65 rfl).and (hT)) ?_ (fun hp=>?_)
 conv=>whnf
 refine Nf.mk (List.length c52.1) len_map ?_
 conv=>whnf
 refine Both.mk ?_ ?_<;>intro b65
 obtain ⟨h,b65d⟩:=ctd b65 h
 conv=>whnf
 refine Side.mk rfl ?_
 conv=>whnf
 refine Side.mk rfl ?_
 conv=>whnf
 obtain ⟨c66,h⟩:=chk_some h
 refine Arith.mk c66 ?_
 conv=>whnf
 obtain ⟨c67,h⟩:=chk_some h
 refine Side.mk (show (0:Int)≤(0:Int)∧(0:Int)≤(c53+1)∧(c53+1)≤(↑(List.length (List.map cI w_)):Int)∧(∀ e∈List.map cI w_,List.length e=1) from ⟨by omega,by first | omega | (simp only [List.length_map];omega),by first | omega | (simp only [List.length_map];omega),map_len fun _=>rfl⟩) ?_
 conv=>whnf
 refine Nf.mk (List.map cI (List.take (Int.toNat (c53+1)) w_)) take_map ?_
 conv=>whnf
 obtain ⟨c68,hc68,h⟩:=bind_some h
 refine ⟨_,(zjm [(List.take (Int.toNat (c53+1)) w_)] c68 (fun _=>hc68)).im,?_⟩
 conv=>whnf
 obtain ⟨c69,h⟩:=chk_some h
 refine Arith.mk c69 ?_
 conv=>whnf
 obtain ⟨c70,h⟩:=chk_some h
 refine Side.mk (show (0:Int)≤(0:Int)∧(0:Int)≤(c53+1)∧(c53+1)≤(↑(List.length (List.map cI out_)):Int)∧(∀ e∈List.map cI out_,List.length e=1) from ⟨by omega,by first | omega | (simp only [List.length_map];omega),by first | omega | (simp only [List.length_map];omega),map_len fun _=>rfl⟩) ?_
 conv=>whnf
 refine Nf.mk (List.map cI (List.take (Int.toNat (c53+1)) out_)) take_map ?_
 conv=>whnf
 obtain ⟨c71,hc71,h⟩:=bind_some h
 refine ⟨_,(zjm [(List.take (Int.toNat (c53+1)) out_)] c71 (fun _=>hc71)).im,?_⟩
 conv=>whnf
 obtain ⟨c72,h⟩:=chk_some h
 refine Side.mk ⟨rfl,map_len (l:=[(⟨c68,c71⟩:zad)]) (c:=zak) fun _=>rfl,show capOk _ 48 by simpa only [List.length_map,List.length_cons,List.length_nil,Nat.zero_add] using c72⟩ ?_
 conv=>whnf
 refine Nf.mk (List.map zak (r_.Changes++[(⟨c68,c71⟩:zad)])) (app_map (l:=r_.Changes) (m:=[(⟨c68,c71⟩:zad)]) (c:=zak)) ?_
 conv=>whnf
 refine Side.mk rfl ?_
 conv=>whnf
 refine Side.mk rfl ?_
 conv=>whnf
 cases h
 exact Join.mk (eA [(64,some 4),(65,some 1),(66,some 8)])
 obtain ⟨h,b65d⟩:=cfd b65 h
 conv=>whnf
 cases h
 exact Join.mk (eA [(64,some 4),(65,some 1),(66,some 8)])
 replace h:=hk55
 obtain ⟨z73,_⟩:=hp
 conv=>whnf
 refine Side.mk rfl ?_
 conv=>whnf
 refine Side.mk rfl ?_
 conv=>whnf
 cases h
 conv=>whnf
 refine Side.mk ⟨rfl,trivial⟩ ?_
 conv=>whnf
 exact Side.mk ⟨rfl,trivial⟩ ⟨rfl,rfl⟩
theorem zld (a_:zaa) (b_:zaa) (extra_:Int) (r:zaf×Int) (h:Ok (.agg (zab a_))→Ok (.agg (zab b_))→Ok (nI extra_)→za9 a_ b_ extra_=some r):Sp Tryz.prog 10 [.im (.agg (zab a_)),.im (.agg (zab b_)),.im (nI extra_)] (.tup [.agg (zca r.1),nI r.2]):=by
 refine sp_of rfl [74001,500050,700003,700004,8000073,8500073] rfl rfl rfl (Nat.le_of_ble_eq_true rfl) rfl fun hk=>?_
 replace h:=h hk.1 hk.2.1 hk.2.2.1
 have z1:lZ a_.Next:=ok_len (Ok.agg_at hk.1 2 rfl)
 have z2:lZ a_.Out:=ok_len (Ok.agg_at hk.1 3 rfl)
 have z3:lZ b_.Next:=ok_len (Ok.agg_at hk.2.1 2 rfl)
 have z4:lZ b_.Out:=ok_len (Ok.agg_at hk.2.1 3 rfl)
 unfold za9 at h
 conv=>whnf
 obtain ⟨c51,hc51,h⟩:=bind_some h
 refine ⟨_,(zlo a_ extra_ c51 (fun _ _=>hc51)),?_⟩
 conv=>whnf
 refine Side.mk rfl ?_
 conv=>whnf
 refine Both.mk ?_ ?_<;>intro b52
 obtain ⟨h,b52d⟩:=ctd b52 h
 conv=>whnf
 refine Side.mk rfl ?_
 conv=>whnf
 cases h
 conv=>whnf
 refine Side.mk ⟨rfl,trivial⟩ ?_
 conv=>whnf
 exact ⟨rfl,rfl⟩
 obtain ⟨h,b52d⟩:=cfd b52 h
 conv=>whnf
 obtain ⟨c53,hc53,h⟩:=bind_some h
 refine ⟨_,(zda b_ c53 (fun _=>hc53)),?_⟩
 conv=>whnf
 refine Both.mk ?_ ?_<;>intro b54
 obtain ⟨h,b54d⟩:=ctd b54 h
 conv=>whnf
 refine Side.mk rfl ?_
 conv=>whnf
 cases h
 conv=>whnf
 refine Side.mk ⟨rfl,trivial⟩ ?_
 conv=>whnf
 exact ⟨rfl,rfl⟩
 obtain ⟨h,b54d⟩:=cfd b54 h
 conv=>whnf
 refine Both.mk ?_ ?_<;>intro b55
 obtain ⟨h,b55d⟩:=ctd b55 h
 conv=>whnf
 refine Side.mk rfl ?_
 conv=>whnf
 cases h
 conv=>whnf
 refine Side.mk ⟨rfl,trivial⟩ ?_
 conv=>whnf
 exact ⟨rfl,rfl⟩
 obtain ⟨h,b55d⟩:=cfd b55 h
 conv=>whnf
 refine Side.mk rfl ?_
 conv=>whnf
 obtain ⟨⟨y89,y90⟩,hc,hk56⟩:=bind_some h
 clear h
 have h:=hc
 clear hc
 refine Cut.mk (mkSt [(6,.own 75 1 0),(10,.own 76 1 0)] [(75,.box 37 2),(76,.box 37 2),(77,.row 50 2 (List.map zak y90))] [(75,0,.im (nI 0)),(75,1,.im (.val (.slice none 0 0))),(76,0,.im (nI y89)),(76,1,.osl 77 1)]) (lZ y90∧True) ((Holds.kdl 77 rfl).and (hT)) ?_ (fun hp=>?_)
 conv=>whnf
 refine Loops.iter (fun (s:Int×List zad×Nat)=>za9.s2 b_ c51 s.1 s.2.1 s.2.2) (fun (y99,y100,i101)=>mkSt [(4,.im (.ref (zab b_))),(6,.own 75 1 0),(8,.own 76 1 0),(10,.own 77 1 0),(11,.im (nI (↑i101:Int)))] [(75,.box 37 2),(76,.box 29 5),(77,.box 37 2),(78,.row 50 2 (List.map zak y100))] [(75,0,.im (nI 0)),(75,1,.im (.val (.slice none 0 0))),(76,0,.im (nI c51.1.M.Inputs)),(76,1,.im (nI c51.1.M.Start)),(76,2,.im (nL (cL cI) c51.1.M.Next)),(76,3,.im (nL (cL cI) c51.1.M.Out)),(76,4,.im (nL (cL cI) c51.1.Words)),(77,0,.im (nI y99)),(77,1,.osl 78 1)]) (fun (y99,y100,i101)=>lZ c51.1.M.Next∧lZ c51.1.M.Out∧lZ c51.1.Words∧lZ y100∧True) h (Ent.mk [(75,some 6),(76,some 8),(77,some 10),(78,none)] rfl ⟨eI rfl rfl,⟨.own 6 _ 0,rfl,.own rfl rfl rfl⟩,⟨.own 8 _ 0,rfl,.own rfl rfl rfl⟩,⟨.own 10 _ 0,rfl,.own rfl rfl rfl⟩,eI rfl rfl,trivial⟩ ⟨.inl ⟨6,rfl,rfl,trivial⟩,.inl ⟨8,rfl,rfl,trivial⟩,.inl ⟨10,rfl,rfl,trivial⟩,.inr ⟨rfl,rfl,.inl ⟨_,_,rfl,by decide⟩⟩,trivial⟩ ⟨⟨6,.im _,rfl,rfl,.im (Sub.rfl' rfl)⟩,⟨6,.im (.val (.slice none 0 0)),rfl,rfl,.im (Sub.rfl' rfl)⟩,⟨8,.im _,rfl,rfl,.im (Sub.rfl' rfl)⟩,⟨8,.im _,rfl,rfl,.im (Sub.rfl' rfl)⟩,⟨8,.im _,rfl,rfl,.im (Sub.rfl' rfl)⟩,⟨8,.im _,rfl,rfl,.im (Sub.rfl' rfl)⟩,⟨8,.im _,rfl,rfl,.im (Sub.rfl' rfl)⟩,⟨10,.im _,rfl,rfl,.im (Sub.rfl' rfl)⟩,⟨10,.im (.val (.slice none 0 0)),rfl,rfl,.made rfl rfl⟩,trivial⟩) (by rintro ⟨y99,y100,i101⟩;exact ((Holds.cel 76 2 rfl (by decide) rfl).and ((Holds.cel 76 3 rfl (by decide) rfl).and ((Holds.cel 76 4 rfl (by decide) rfl).and ((Holds.kdl 78 rfl).and (hT)))))) ?_
 clear h
 rintro k ⟨y99,y100,i101⟩ o hp h ho110
 replace h:za9.s2 b_ c51 y99 y100 i101=some o:=h
 unfold za9.s2 at h
 obtain ⟨z119,z120,z121,z122,_⟩:=hp
 conv=>whnf
 refine Side.mk rfl ?_
 conv=>whnf
 refine Side.mk rfl ?_
 conv=>whnf
 refine Nf.mk (List.length c51.1.Words) len_map ?_
 conv=>whnf
 refine Both.mk ?_ ?_<;>intro b111
 obtain ⟨h,b111d⟩:=ctd b111 h
 conv=>whnf
 refine Side.mk rfl ?_
 conv=>whnf
 refine Side.mk rfl ?_
 conv=>whnf
 refine Side.mk rfl ?_
 conv=>whnf
 obtain ⟨e112,he112,h⟩:=zac h
 refine ⟨_,⟨(by omega),map_at he112,rfl⟩,?_⟩
 conv=>whnf
 refine Side.mk ⟨rfl,trivial⟩ ?_
 conv=>whnf
 obtain ⟨c113,hc113,h⟩:=bind_some h
 refine ⟨_,(sp_R50_known (⟨y99,y100⟩:zaf) e112 c113 (fun _ _=>hc113)),?_⟩
 conv=>whnf
 refine Side.mk flat_one ?_
 conv=>whnf
 refine Both.mk ?_ ?_<;>intro b114
 replace h:=cond_t b114 h
 conv=>whnf
 refine Side.mk rfl ?_
 conv=>whnf
 refine Side.mk rfl ?_
 conv=>whnf
 obtain ⟨e115,he115,h⟩:=zac h
 refine ⟨_,⟨(by omega),map_at he115,rfl⟩,?_⟩
 conv=>whnf
 obtain ⟨c116,hc116,h⟩:=bind_some h
 refine ⟨_,(zgu b_ b_.Start e115 c116 (fun _ _ _=>hc116)),?_⟩
 conv=>whnf
 refine Side.mk rfl ?_
 conv=>whnf
 refine Side.mk rfl ?_
 conv=>whnf
 refine Side.mk rfl ?_
 conv=>whnf
 refine Side.mk rfl ?_
 conv=>whnf
 refine Side.mk rfl ?_
 conv=>whnf
 obtain ⟨e117,he117,h⟩:=zac h
 refine ⟨_,⟨(by omega),map_at he117,rfl⟩,?_⟩
 conv=>whnf
 refine Side.mk ⟨rfl,trivial⟩ ?_
 conv=>whnf
 obtain ⟨c118,hc118,h⟩:=bind_some h
 refine ⟨_,(sp_R50_with (⟨y99,y100⟩:zaf) c51.1.M e117 c116.1 c118 (fun _ _ _ _ _=>hc118)),?_⟩
 conv=>whnf
 refine Side.mk rfl ?_
 conv=>whnf
 refine Arith.mk (by show inR _;unfold inR;omega) ?_
 conv=>whnf
 cases h
 exact Nxt.mk _ ho110 (eA [(75,some 75),(76,some 76),(77,some 77),(78,some 3393)])
 replace h:=cond_f b114 h
 conv=>whnf
 refine Arith.mk (by show inR _;unfold inR;omega) ?_
 conv=>whnf
 cases h
 exact Nxt.mk _ ho110 (eA [(75,some 75),(76,some 76),(77,some 77),(78,some 78)])
 obtain ⟨h,b111d⟩:=cfd b111 h
 conv=>whnf
 cases h
 have ho110:_=_:=ho110
 cases ho110
 exact Join.mk (eA [(75,some 75),(76,some 77),(77,some 78)])
 replace h:za9.k3 y89 y90=some _:=hk56
 unfold za9.k3 at h
 obtain ⟨z123,_⟩:=hp
 conv=>whnf
 refine Side.mk rfl ?_
 conv=>whnf
 refine Side.mk rfl ?_
 conv=>whnf
 cases h
 conv=>whnf
 refine Side.mk ⟨rfl,trivial⟩ ?_
 conv=>whnf
 exact Side.mk ⟨rfl,trivial⟩ ⟨rfl,rfl⟩
theorem sp_R06_Same (a_:zaa) (b_:zaa) (r:Bool) (h:Ok (.agg (zab a_))→Ok (.agg (zab b_))→R06_Same a_ b_=some r):Sp Tryz.prog 11 [.im (.agg (zab a_)),.im (.agg (zab b_))] (.im (nB r)):=by
 refine sp_of rfl [700002,700003] rfl rfl rfl (Nat.le_of_ble_eq_true rfl) rfl fun hk=>?_
 replace h:=h hk.1 hk.2.1
 have z1:lZ a_.Next:=ok_len (Ok.agg_at hk.1 2 rfl)
 have z2:lZ a_.Out:=ok_len (Ok.agg_at hk.1 3 rfl)
 have z3:lZ b_.Next:=ok_len (Ok.agg_at hk.2.1 2 rfl)
 have z4:lZ b_.Out:=ok_len (Ok.agg_at hk.2.1 3 rfl)
 unfold R06_Same at h
 conv=>whnf
 obtain ⟨y58,hc,hk52⟩:=bind_some h
 clear h
 have h:=hc
 clear hc
 refine Cut.mk (mkSt [(4,.im (nB y58))] [] []) (True) (hT) ?_ (fun hp=>?_)
 conv=>whnf
 refine Both.mk ?_ ?_<;>intro b59
 replace b59:=beq_tt b59
 obtain ⟨h,b59d⟩:=ctd b59 h
 conv=>whnf
 iterate 4 (refine Both.yes (tt_beq b59) ?_;(conv=>whnf))
 refine Both.yes b59 ?_
 conv=>whnf
 refine Both.mk ?_ ?_<;>intro b60
 replace b60:=beq_tt b60
 obtain ⟨h,b60d⟩:=ctd b60 h
 conv=>whnf
 iterate 4 (refine Both.yes (tt_beq b60) ?_;(conv=>whnf))
 obtain ⟨c61,hc61,h⟩:=bind_some h
 refine ⟨_,(zeh a_.Next b_.Next c61 (fun _ _=>hc61)),?_⟩
 conv=>whnf
 refine Both.yes b60 ?_
 conv=>whnf
 refine Both.mk ?_ ?_<;>intro b62
 replace b62:=beq_tt b62
 replace h:=cond_t b62 h
 conv=>whnf
 iterate 4 (refine Both.yes (tt_beq b62) ?_;(conv=>whnf))
 obtain ⟨c63,hc63,h⟩:=bind_some h
 refine ⟨_,(zeh a_.Out b_.Out c63 (fun _ _=>hc63)),?_⟩
 conv=>whnf
 refine Both.yes b62 ?_
 conv=>whnf
 cases h
 exact Join.mk (eA [])
 replace b62:=beq_tf b62
 replace h:=cond_f b62 h
 conv=>whnf
 iterate 4 (refine Both.no (ft_beq b62) ?_;(conv=>whnf))
 refine Both.no b62 ?_
 conv=>whnf
 cases h
 exact Join.mk (eA [])
 replace b60:=beq_tf b60
 obtain ⟨h,b60d⟩:=cfd b60 h
 conv=>whnf
 iterate 4 (refine Both.no (ft_beq b60) ?_;(conv=>whnf))
 refine Both.no b60 ?_
 conv=>whnf
 iterate 6 (refine Both.no rfl ?_;(conv=>whnf))
 cases h
 exact Join.mk (eA [])
 replace b59:=beq_tf b59
 obtain ⟨h,b59d⟩:=cfd b59 h
 conv=>whnf
 iterate 4 (refine Both.no (ft_beq b59) ?_;(conv=>whnf))
 refine Both.no b59 ?_
 conv=>whnf
 iterate 12 (refine Both.no rfl ?_;(conv=>whnf))
 cases h
 exact Join.mk (eA [])
 replace h:=hk52
 conv=>whnf
 cases h
 conv=>whnf
 exact ⟨rfl,rfl⟩
theorem zia (a_:List zad) (b_:List zad) (r:Bool) (h:Ok (nL zak a_)→Ok (nL zak b_)→zbi a_ b_=some r):Sp Tryz.prog 28 [.im (nL zak a_),.im (nL zak b_)] (.im (nB r)):=by
 refine sp_of rfl [] rfl rfl rfl (Nat.le_of_ble_eq_true rfl) rfl fun hk=>?_
 replace h:=h hk.1 hk.2.1
 have z1:lZ a_:=ok_len hk.1
 have z2:lZ b_:=ok_len hk.2.1
 unfold zbi at h
 conv=>whnf
 refine Nf.mk (List.length a_) len_map ?_
 conv=>whnf
 refine Nf.mk (List.length b_) len_map ?_
 conv=>whnf
 refine Both.mk ?_ ?_<;>intro b51
 obtain ⟨h,b51d⟩:=ctd b51 h
 conv=>whnf
 cases h
 conv=>whnf
 exact ⟨rfl,rfl⟩
 obtain ⟨h,b51d⟩:=cfd b51 h
 conv=>whnf
 obtain ⟨oc,hc,hk52⟩:=bind_some h
 clear h
 have h:=hc
 clear hc
 refine Cut.mkS oc (Y:=Unit) (fun (_:Unit)=>mkSt [] [] []) (fun (_:Unit)=>True) (by rintro ⟨⟩;exact (hT)) ?_ ?_
 conv=>whnf
 refine Loops.iter (fun (s:Nat)=>zbi.s2 a_ b_ s) (fun i141=>mkSt [(0,.im (nL zak a_)),(1,.im (nL zak b_)),(5,.im (nI (↑i141:Int)))] [] []) (fun i141=>lZ a_∧lZ b_∧True) h (eA []) (by rintro i141;exact ((Holds.avl 0 rfl).and ((Holds.avl 1 rfl).and (hT)))) ?_
 clear h
 rintro k i141 o hp h ho163
 replace h:zbi.s2 a_ b_ i141=some o:=h
 unfold zbi.s2 at h
 obtain ⟨z185,z186,_⟩:=hp
 conv=>whnf
 refine Nf.mk (List.length a_) len_map ?_
 conv=>whnf
 refine Both.mk ?_ ?_<;>intro b164
 obtain ⟨h,b164d⟩:=ctd b164 h
 conv=>whnf
 obtain ⟨y174,hc,hk166⟩:=bind_some h
 clear h
 have h:=hc
 clear hc
 refine Cut.mk (mkSt [(0,.im (nL zak a_)),(1,.im (nL zak b_)),(5,.im (nI (↑i141:Int))),(42,.im (nB y174))] [] []) (lZ a_∧lZ b_∧True) ((Holds.avl 0 rfl).and ((Holds.avl 1 rfl).and (hT))) ?_ (fun hp=>?_)
 conv=>whnf
 obtain ⟨e175,he175,h⟩:=zac h
 refine ⟨_,⟨(by omega),map_at he175,rfl⟩,?_⟩
 conv=>whnf
 obtain ⟨e176,he176,h⟩:=zac h
 refine ⟨_,⟨(by omega),map_at he176,rfl⟩,?_⟩
 conv=>whnf
 obtain ⟨c177,hc177,h⟩:=bind_some h
 refine ⟨_,(zc8 e175.In e176.In c177 (fun _ _=>hc177)),?_⟩
 conv=>whnf
 refine Both.mk ?_ ?_<;>intro b178
 replace b178:=beq_ff b178
 replace h:=cond_f b178 h
 conv=>whnf
 iterate 2 (refine Both.yes (ff_beq b178) ?_;(conv=>whnf))
 obtain ⟨e179,he179,h⟩:=zac h
 refine ⟨_,⟨(by omega),map_at he179,rfl⟩,?_⟩
 conv=>whnf
 iterate 5 (refine Both.yes (ff_beq b178) ?_;(conv=>whnf))
 obtain ⟨e180,he180,h⟩:=zac h
 refine ⟨_,⟨(by omega),map_at he180,rfl⟩,?_⟩
 conv=>whnf
 iterate 3 (refine Both.yes (ff_beq b178) ?_;(conv=>whnf))
 obtain ⟨c181,hc181,h⟩:=bind_some h
 refine ⟨_,(zc8 e179.Out e180.Out c181 (fun _ _=>hc181)),?_⟩
 conv=>whnf
 refine Both.yes (ff_beq b178) ?_
 conv=>whnf
 refine Both.no b178 ?_
 conv=>whnf
 cases h
 exact Join.mk (eA [])
 replace b178:=beq_ft b178
 replace h:=cond_t b178 h
 conv=>whnf
 iterate 11 (refine Both.no (tf_beq b178) ?_;(conv=>whnf))
 refine Both.yes b178 ?_
 conv=>whnf
 cases h
 exact Join.mk (eA [])
 replace h:=hk166
 obtain ⟨z182,z183,_⟩:=hp
 conv=>whnf
 refine Both.mk ?_ ?_<;>intro b184
 replace h:=cond_t b184 h
 conv=>whnf
 cases h
 have ho163:_=_:=ho163
 cases ho163
 replace h:some _=some _:=hk52
 cases h
 conv=>whnf
 exact ⟨rfl,rfl⟩
 replace h:=cond_f b184 h
 conv=>whnf
 refine Arith.mk (by show inR _;unfold inR;omega) ?_
 conv=>whnf
 cases h
 exact Nxt.mk _ ho163 (eA [])
 obtain ⟨h,b164d⟩:=cfd b164 h
 conv=>whnf
 cases h
 have ho163:_=_:=ho163
 cases ho163
 exact JoinS.mk' _ rfl (eA [])
 rintro ⟨⟩ rfl hp
 replace h:=sum_inl hk52
 conv=>whnf
 cases h
 conv=>whnf
 exact ⟨rfl,rfl⟩
theorem zid (a_:zaf) (b_:zaf) (r:Bool) (h:Ok (.agg (zca a_))→Ok (.agg (zca b_))→zcc a_ b_=some r):Sp Tryz.prog 13 [.im (.agg (zca a_)),.im (.agg (zca b_))] (.im (nB r)):=by
 refine sp_of rfl [700002,700003] rfl rfl rfl (Nat.le_of_ble_eq_true rfl) rfl fun hk=>?_
 replace h:=h hk.1 hk.2.1
 have z1:lZ a_.Changes:=ok_len (Ok.agg_at hk.1 1 rfl)
 have z2:lZ b_.Changes:=ok_len (Ok.agg_at hk.2.1 1 rfl)
 unfold zcc at h
 conv=>whnf
 obtain ⟨y55,hc,hk52⟩:=bind_some h
 clear h
 have h:=hc
 clear hc
 refine Cut.mk (mkSt [(4,.im (nB y55))] [] []) (True) (hT) ?_ (fun hp=>?_)
 conv=>whnf
 refine Both.mk ?_ ?_<;>intro b56
 replace b56:=beq_tt b56
 obtain ⟨h,b56d⟩:=ctd b56 h
 conv=>whnf
 iterate 4 (refine Both.yes (tt_beq b56) ?_;(conv=>whnf))
 obtain ⟨c57,hc57,h⟩:=bind_some h
 refine ⟨_,(zia a_.Changes b_.Changes c57 (fun _ _=>hc57)),?_⟩
 conv=>whnf
 refine Both.yes b56 ?_
 conv=>whnf
 cases h
 exact Join.mk (eA [])
 replace b56:=beq_tf b56
 obtain ⟨h,b56d⟩:=cfd b56 h
 conv=>whnf
 iterate 4 (refine Both.no (ft_beq b56) ?_;(conv=>whnf))
 refine Both.no b56 ?_
 conv=>whnf
 cases h
 exact Join.mk (eA [])
 replace h:=hk52
 conv=>whnf
 cases h
 conv=>whnf
 exact ⟨rfl,rfl⟩
theorem zib (a_:zaa) (b_:zaa) (extra_:Int) (r:Bool) (h:Ok (.agg (zab a_))→Ok (.agg (zab b_))→Ok (nI extra_)→zc4 a_ b_ extra_=some r):Sp Tryz.prog 3 [.im (.agg (zab a_)),.im (.agg (zab b_)),.im (nI extra_)] (.im (nB r)):=by
 refine sp_of rfl [700003,700004] rfl rfl rfl (Nat.le_of_ble_eq_true rfl) rfl fun hk=>?_
 replace h:=h hk.1 hk.2.1 hk.2.2.1
 have z1:lZ a_.Next:=ok_len (Ok.agg_at hk.1 2 rfl)
 have z2:lZ a_.Out:=ok_len (Ok.agg_at hk.1 3 rfl)
 have z3:lZ b_.Next:=ok_len (Ok.agg_at hk.2.1 2 rfl)
 have z4:lZ b_.Out:=ok_len (Ok.agg_at hk.2.1 3 rfl)
 unfold zc4 at h
 conv=>whnf
 obtain ⟨y56,hc,hk52⟩:=bind_some h
 clear h
 have h:=hc
 clear hc
 refine Cut.mk (mkSt [(2,.im (nI extra_)),(3,.im (.ref (zab a_))),(4,.im (.ref (zab b_))),(22,.im (nB y56))] [] []) (True) (hT) ?_ (fun hp=>?_)
 conv=>whnf
 obtain ⟨c57,hc57,h⟩:=bind_some h
 refine ⟨_,(sp_L50_small a_ extra_ c57 (fun _ _=>hc57)),?_⟩
 conv=>whnf
 refine Both.mk ?_ ?_<;>intro b58
 replace b58:=beq_ff b58
 replace h:=cond_f b58 h
 conv=>whnf
 refine Both.yes (ff_beq b58) ?_
 conv=>whnf
 obtain ⟨c59,hc59,h⟩:=bind_some h
 refine ⟨_,(sp_L06_Great b_ c59 (fun _=>hc59)),?_⟩
 conv=>whnf
 refine Both.no b58 ?_
 conv=>whnf
 cases h
 exact Join.mk (eA [])
 replace b58:=beq_ft b58
 replace h:=cond_t b58 h
 conv=>whnf
 refine Both.no (tf_beq b58) ?_
 conv=>whnf
 refine Both.yes b58 ?_
 conv=>whnf
 cases h
 exact Join.mk (eA [])
 replace h:=hk52
 conv=>whnf
 refine Both.mk ?_ ?_<;>intro b60
 replace h:=cond_t b60 h
 conv=>whnf
 obtain ⟨c61,hc61,h⟩:=bind_some h
 refine ⟨_,(zis  c61 (hc61)),?_⟩
 conv=>whnf
 cases h
 conv=>whnf
 exact ⟨rfl,rfl⟩
 replace h:=cond_f b60 h
 conv=>whnf
 obtain ⟨c62,hc62,h⟩:=bind_some h
 refine ⟨_,(zen a_ extra_ c62 (fun _ _=>hc62)),?_⟩
 conv=>whnf
 refine Side.mk rfl ?_
 conv=>whnf
 obtain ⟨c63,hc63,h⟩:=bind_some h
 refine ⟨_,(zlo a_ extra_ c63 (fun _ _=>hc63)),?_⟩
 conv=>whnf
 refine Side.mk rfl ?_
 conv=>whnf
 obtain ⟨c64,hc64,h⟩:=bind_some h
 refine ⟨_,(zdg a_ b_ extra_ c64 (fun _ _ _=>hc64)),?_⟩
 conv=>whnf
 refine Side.mk rfl ?_
 conv=>whnf
 obtain ⟨c65,hc65,h⟩:=bind_some h
 refine ⟨_,(zld a_ b_ extra_ c65 (fun _ _ _=>hc65)),?_⟩
 conv=>whnf
 refine Side.mk rfl ?_
 conv=>whnf
 obtain ⟨y77,hc,hk67⟩:=bind_some h
 clear h
 have h:=hc
 clear hc
 refine Cut.mk (mkSt [(6,.im (nB y77))] [] []) (True) (hT) ?_ (fun hp=>?_)
 conv=>whnf
 refine Side.mk rfl ?_
 conv=>whnf
 refine Side.mk rfl ?_
 conv=>whnf
 refine Side.mk rfl ?_
 conv=>whnf
 refine Side.mk rfl ?_
 conv=>whnf
 obtain ⟨c78,hc78,h⟩:=bind_some h
 refine ⟨_,(sp_R06_Same c62.1.M c63.1.M c78 (fun _ _=>hc78)),?_⟩
 conv=>whnf
 refine Both.mk ?_ ?_<;>intro b79
 replace b79:=beq_tt b79
 replace h:=cond_t b79 h
 conv=>whnf
 refine Side.mk rfl ?_
 conv=>whnf
 refine Both.yes (tt_beq b79) ?_
 conv=>whnf
 refine Side.mk rfl ?_
 conv=>whnf
 refine Both.yes (tt_beq b79) ?_
 conv=>whnf
 refine Side.mk rfl ?_
 conv=>whnf
 refine Both.yes (tt_beq b79) ?_
 conv=>whnf
 refine Side.mk rfl ?_
 conv=>whnf
 refine Both.yes (tt_beq b79) ?_
 conv=>whnf
 obtain ⟨c80,hc80,h⟩:=bind_some h
 refine ⟨_,(zeh c62.1.Words c63.1.Words c80 (fun _ _=>hc80)),?_⟩
 conv=>whnf
 refine Both.yes b79 ?_
 conv=>whnf
 refine Both.mk ?_ ?_<;>intro b81
 replace b81:=beq_tt b81
 replace h:=cond_t b81 h
 conv=>whnf
 iterate 2 (refine Both.yes (tt_beq b81) ?_;(conv=>whnf))
 refine Both.yes b81 ?_
 conv=>whnf
 refine Both.mk ?_ ?_<;>intro b82
 replace b82:=beq_tt b82
 obtain ⟨h,b82d⟩:=ctd b82 h
 conv=>whnf
 refine Side.mk rfl ?_
 conv=>whnf
 refine Both.yes (tt_beq b82) ?_
 conv=>whnf
 refine Side.mk rfl ?_
 conv=>whnf
 refine Both.yes (tt_beq b82) ?_
 conv=>whnf
 obtain ⟨c83,hc83,h⟩:=bind_some h
 refine ⟨_,(zid c64.1 c65.1 c83 (fun _ _=>hc83)),?_⟩
 conv=>whnf
 refine Both.yes b82 ?_
 conv=>whnf
 refine Both.mk ?_ ?_<;>intro b84
 replace b84:=beq_tt b84
 replace h:=cond_t b84 h
 conv=>whnf
 iterate 2 (refine Both.yes (tt_beq b84) ?_;(conv=>whnf))
 refine Both.yes b84 ?_
 conv=>whnf
 refine Both.mk ?_ ?_<;>intro b85
 replace b85:=beq_tt b85
 obtain ⟨h,b85d⟩:=ctd b85 h
 conv=>whnf
 obtain ⟨c86,hc86,h⟩:=bind_some h
 refine ⟨_,(zis  c86 (hc86)),?_⟩
 conv=>whnf
 refine Both.yes b85 ?_
 conv=>whnf
 cases h
 exact Join.mk (eA [])
 replace b85:=beq_tf b85
 obtain ⟨h,b85d⟩:=cfd b85 h
 conv=>whnf
 refine Both.no b85 ?_
 conv=>whnf
 cases h
 exact Join.mk (eA [])
 replace b84:=beq_tf b84
 replace h:=cond_f b84 h
 conv=>whnf
 iterate 2 (refine Both.no (ft_beq b84) ?_;(conv=>whnf))
 refine Both.no b84 ?_
 conv=>whnf
 iterate 2 (refine Both.no rfl ?_;(conv=>whnf))
 cases h
 exact Join.mk (eA [])
 replace b82:=beq_tf b82
 obtain ⟨h,b82d⟩:=cfd b82 h
 conv=>whnf
 iterate 2 (refine Both.no (ft_beq b82) ?_;(conv=>whnf))
 refine Both.no b82 ?_
 conv=>whnf
 iterate 6 (refine Both.no rfl ?_;(conv=>whnf))
 cases h
 exact Join.mk (eA [])
 replace b81:=beq_tf b81
 replace h:=cond_f b81 h
 conv=>whnf
 iterate 2 (refine Both.no (ft_beq b81) ?_;(conv=>whnf))
 refine Both.no b81 ?_
 conv=>whnf
 iterate 10 (refine Both.no rfl ?_;(conv=>whnf))
 cases h
 exact Join.mk (eA [])
 replace b79:=beq_tf b79
 replace h:=cond_f b79 h
 conv=>whnf
 iterate 4 (refine Both.no (ft_beq b79) ?_;(conv=>whnf))
 refine Both.no b79 ?_
 conv=>whnf
 iterate 14 (refine Both.no rfl ?_;(conv=>whnf))
 cases h
 exact Join.mk (eA [])
 replace h:=hk67
 conv=>whnf
 cases h
 conv=>whnf
 exact ⟨rfl,rfl⟩
end Go.Proofs.YtcneaiejdidooaaGreat.Sym
